/- The statement DiagSums, walked. -/
import Derived.Test.YtbodmnijpdffaaaDoorPl
import Derived.Test.YtbodmnijpdffaaaDoorPe
import Derived.Test.YtbodmnijpdffaaaDoorDu
import Derived.Test.YtbodmnijpdffaaaDoorProg
import Derived.KernelRfl
namespace Go.Proofs
open Go Go.V
set_option maxRecDepth 20000
theorem ref_Check_v (base : Option Addr) (A : Addr) (cap : Nat) (d : Dia) (v : Int) (w : World) (hd : DiaAt w base A d) (hc : checkI d = v) : Gives Tryd.prog 8 #[diaV base cap d] w Nil (fun _ : Unit => True) (fun _ => iv v) (fun _ => []) := by
  have h := ref_Check base A cap d w hd
  rwa [hc] at h
theorem dia_none (w : World) : DiaAt w none ⟨0, 0, none⟩ ⟨[], 0⟩ := ⟨fun h => absurd h (Nat.lt_irrefl 0), fun i x hi => by simp at hi, Nat.zero_le _, fun x hx => (by cases hx), ⟨by decide, by decide⟩⟩
theorem same_none (w : World) : Gives Tryd.prog 22 #[.agg #[.slice none 0 0, iv 0], .agg #[.slice none 0 0, iv 0]] w Nil (fun _ : Unit => True) (fun _ => .bool true) (fun _ => []) := ref_Same_eq none none ⟨0, 0, none⟩ ⟨0, 0, none⟩ 0 0 ⟨[], 0⟩ ⟨[], 0⟩ w (dia_none w) (dia_none w) rfl
theorem ref_Writhe' (base : Option Addr) (A : Addr) (cap : Nat) (d : Dia) (w : World) (hd : DiaAt w base A d) (hS : SoundP d) : Gives Tryd.prog 18 #[diaV base cap d] w Nil (fun _ : Unit => True) (fun _ => iv (writhe d)) (fun _ => []) := ref_Writhe base A cap d w hd hS.1 fun _ hx => hS.sgn_mem hx

theorem lw_DiagSums_biga (ba : Option Addr) (ca : Nat) (a : Dia) (bb : Option Addr) (cb : Nat) (b : Dia) (i j : Int) (w : World) (hl : (20 < a.cross.length ∧ a.cross.length ≤ 200)) : Gives Tryd.prog 6 #[diaV ba ca a, diaV bb cb b, iv i, iv j] w Nil (fun _ : Unit => True) (fun _ => .bool true) (fun _ => []) := by
  refine fn_of_run (S := Nil) (args := [diaV ba ca a, diaV bb cb b, iv i, iv j]) (n := 205) (L := []) Tryd.func6 rfl Tryd.ntmps6 (Nat.le_of_ble_eq_true rfl) (Sym.nil _ _) ?_
  change RunC _ _ _ [(0, _), (1, _), (2, _), (3, _)] _
  refine RunC.seq ?_
  refine RunC.region ?_
  refine RunL.grows rfl rfl rfl (Grows.box rfl rfl) (fun b4 _ => ?_)
  refine RunL.grows rfl rfl rfl (Grows.box rfl rfl) (fun b5 _ => ?_)
  refine RunL.still rfl rfl rfl (Still.assign rfl rfl) ?_
  refine RunL.nil ?_
  refine Ends.then ?_
  refine RunC.seq ?_
  refine RunC.seq ?_
  refine RunC.region ?_
  refine RunL.still rfl rfl rfl (Still.loads rfl rfl Tryd.isAgg24 Tryd.sizeOf24 (vs := [_, _]) rfl (fun _ hs => cells_nth (hs.at (i := 1) rfl) ⟨rfl, ⟨rfl, trivial⟩⟩)) ?_
  refine RunL.grows rfl rfl rfl (Grows.call (vs := #[_]) rfl rfl Tryd.call7 (fun w hs => lw_large ba ca a w)) (fun _ _ => ?_)
  refine RunL.again (t := 30) (u := .bool true) rfl (congrArg Value.bool (decide_eq_true (hl))) ?_
  refine RunL.still rfl rfl rfl (Still.move rfl rfl) ?_
  refine RunL.off rfl rfl rfl ?_
  refine RunL.off rfl rfl rfl ?_
  refine RunL.still rfl rfl rfl (Still.pickT rfl rfl rfl) ?_
  refine RunL.nil ?_
  refine Ends.then ?_
  refine RunC.cond_true rfl ?_
  refine RunC.seq ?_
  refine RunC.region ?_
  refine RunL.still rfl rfl rfl (Still.assign rfl rfl) ?_
  refine RunL.nil ?_
  refine Ends.then ?_
  refine RunC.ret ?_
  refine Ends.then_ret ?_
  refine Ends.leave (.inl rfl) (fun _ _ ok => results1 Tryd.results6 (Holds.tmp rfl) ok) (fun w1 hs => ?_)
  exact Ret.intro () trivial rfl (HSub.nil _) hs

theorem lw_DiagSums_bigb (ba : Option Addr) (ca : Nat) (a : Dia) (bb : Option Addr) (cb : Nat) (b : Dia) (i j : Int) (w : World) (hl : ¬ (20 < a.cross.length ∧ a.cross.length ≤ 200)) (hm : (20 < b.cross.length ∧ b.cross.length ≤ 200)) : Gives Tryd.prog 6 #[diaV ba ca a, diaV bb cb b, iv i, iv j] w Nil (fun _ : Unit => True) (fun _ => .bool true) (fun _ => []) := by
  refine fn_of_run (S := Nil) (args := [diaV ba ca a, diaV bb cb b, iv i, iv j]) (n := 205) (L := []) Tryd.func6 rfl Tryd.ntmps6 (Nat.le_of_ble_eq_true rfl) (Sym.nil _ _) ?_
  change RunC _ _ _ [(0, _), (1, _), (2, _), (3, _)] _
  refine RunC.seq ?_
  refine RunC.region ?_
  refine RunL.grows rfl rfl rfl (Grows.box rfl rfl) (fun b4 _ => ?_)
  refine RunL.grows rfl rfl rfl (Grows.box rfl rfl) (fun b5 _ => ?_)
  refine RunL.still rfl rfl rfl (Still.assign rfl rfl) ?_
  refine RunL.nil ?_
  refine Ends.then ?_
  refine RunC.seq ?_
  refine RunC.seq ?_
  refine RunC.region ?_
  refine RunL.still rfl rfl rfl (Still.loads rfl rfl Tryd.isAgg24 Tryd.sizeOf24 (vs := [_, _]) rfl (fun _ hs => cells_nth (hs.at (i := 1) rfl) ⟨rfl, ⟨rfl, trivial⟩⟩)) ?_
  refine RunL.grows rfl rfl rfl (Grows.call (vs := #[_]) rfl rfl Tryd.call7 (fun w hs => lw_large ba ca a w)) (fun _ _ => ?_)
  refine RunL.again (t := 30) (u := .bool false) rfl (congrArg Value.bool (decide_eq_false (hl))) ?_
  refine RunL.still rfl rfl rfl (Still.move rfl rfl) ?_
  refine RunL.still rfl rfl rfl (Still.loads rfl rfl Tryd.isAgg24 Tryd.sizeOf24 (vs := [_, _]) rfl (fun _ hs => cells_nth (hs.at (i := 0) rfl) ⟨rfl, ⟨rfl, trivial⟩⟩)) ?_
  refine RunL.grows rfl rfl rfl (Grows.call (vs := #[_]) rfl rfl Tryd.call7 (fun w hs => lw_large bb cb b w)) (fun _ _ => ?_)
  refine RunL.again (t := 33) (u := .bool true) rfl (congrArg Value.bool (decide_eq_true (hm))) ?_
  refine RunL.still rfl rfl rfl (Still.pickF rfl rfl rfl) ?_
  refine RunL.nil ?_
  refine Ends.then ?_
  refine RunC.cond_true rfl ?_
  refine RunC.seq ?_
  refine RunC.region ?_
  refine RunL.still rfl rfl rfl (Still.assign rfl rfl) ?_
  refine RunL.nil ?_
  refine Ends.then ?_
  refine RunC.ret ?_
  refine Ends.then_ret ?_
  refine Ends.leave (.inl rfl) (fun _ _ ok => results1 Tryd.results6 (Holds.tmp rfl) ok) (fun w1 hs => ?_)
  exact Ret.intro () trivial rfl (HSub.nil _) hs

theorem lw_DiagSums_d1 (ba : Option Addr) (A : Addr) (ca : Nat) (a : Dia) (bb : Option Addr) (B : Addr) (cb : Nat) (b : Dia) (i j : Int) (w : World) (hda : DiaAt w ba A a) (hdb : DiaAt w bb B b) (hl : ¬ (20 < a.cross.length ∧ a.cross.length ≤ 200)) (hm : ¬ (20 < b.cross.length ∧ b.cross.length ≤ 200)) (ha : ¬ SoundP a) (va : checkI a = 220) : Gives Tryd.prog 6 #[diaV ba ca a, diaV bb cb b, iv i, iv j] w Nil (fun _ : Unit => True) (fun _ => .bool true) (fun _ => []) := by
  refine fn_of_run (S := Nil) (args := [diaV ba ca a, diaV bb cb b, iv i, iv j]) (n := 205) (L := []) Tryd.func6 rfl Tryd.ntmps6 (Nat.le_of_ble_eq_true rfl) (Sym.nil _ _) ?_
  change RunC _ _ _ [(0, _), (1, _), (2, _), (3, _)] _
  refine RunC.seq ?_
  refine RunC.region ?_
  refine RunL.grows rfl rfl rfl (Grows.box rfl rfl) (fun b4 _ => ?_)
  refine RunL.grows rfl rfl rfl (Grows.box rfl rfl) (fun b5 _ => ?_)
  refine RunL.still rfl rfl rfl (Still.assign rfl rfl) ?_
  refine RunL.nil ?_
  refine Ends.then ?_
  refine RunC.seq ?_
  refine RunC.seq ?_
  refine RunC.region ?_
  refine RunL.still rfl rfl rfl (Still.loads rfl rfl Tryd.isAgg24 Tryd.sizeOf24 (vs := [_, _]) rfl (fun _ hs => cells_nth (hs.at (i := 1) rfl) ⟨rfl, ⟨rfl, trivial⟩⟩)) ?_
  refine RunL.grows rfl rfl rfl (Grows.call (vs := #[_]) rfl rfl Tryd.call7 (fun w hs => lw_large ba ca a w)) (fun _ _ => ?_)
  refine RunL.again (t := 30) (u := .bool false) rfl (congrArg Value.bool (decide_eq_false (hl))) ?_
  refine RunL.still rfl rfl rfl (Still.move rfl rfl) ?_
  refine RunL.still rfl rfl rfl (Still.loads rfl rfl Tryd.isAgg24 Tryd.sizeOf24 (vs := [_, _]) rfl (fun _ hs => cells_nth (hs.at (i := 0) rfl) ⟨rfl, ⟨rfl, trivial⟩⟩)) ?_
  refine RunL.grows rfl rfl rfl (Grows.call (vs := #[_]) rfl rfl Tryd.call7 (fun w hs => lw_large bb cb b w)) (fun _ _ => ?_)
  refine RunL.again (t := 33) (u := .bool false) rfl (congrArg Value.bool (decide_eq_false (hm))) ?_
  refine RunL.still rfl rfl rfl (Still.pickF rfl rfl rfl) ?_
  refine RunL.nil ?_
  refine Ends.then ?_
  refine RunC.cond_false rfl ?_
  refine RunC.skip ?_
  refine Ends.then ?_
  refine RunC.seq ?_
  refine RunC.region ?_
  refine RunL.still rfl rfl rfl (Still.loads rfl rfl Tryd.isAgg24 Tryd.sizeOf24 (vs := [_, _]) rfl (fun _ hs => cells_nth (hs.at (i := 1) rfl) ⟨rfl, ⟨rfl, trivial⟩⟩)) ?_
  refine RunL.still rfl rfl rfl (Still.loads rfl rfl Tryd.isAgg24 Tryd.sizeOf24 (vs := [_, _]) rfl (fun _ hs => cells_nth (hs.at (i := 0) rfl) ⟨rfl, ⟨rfl, trivial⟩⟩)) ?_
  refine RunL.grows rfl rfl rfl (Grows.call (vs := #[_, _]) rfl rfl Tryd.call29 (fun w hs => dg_Union_d1 ba A ca a bb B cb b w (hda.sym hs) (hdb.sym hs) ha)) (fun _ _ => ?_)
  refine RunL.still rfl rfl rfl (Still.move rfl rfl) ?_
  refine RunL.still rfl rfl rfl (Still.extractN rfl rfl rfl) ?_
  refine RunL.still rfl rfl rfl (Still.extractN rfl rfl rfl) ?_
  refine RunL.grows rfl rfl rfl (Grows.alloc rfl Tryd.zeroValue24) (fun b9 _ => ?_)
  refine RunL.does0 rfl rfl (Does.store rfl rfl rfl (i := 0) rfl Tryd.sizeOf24 rfl (rfl) rfl) (fun _ _ => ?_)
  refine RunL.still rfl rfl rfl (Still.assign rfl rfl) ?_
  refine RunL.nil ?_
  refine Ends.then ?_
  refine RunC.seq ?_
  refine RunC.region ?_
  refine RunL.still rfl rfl rfl (Still.loads rfl rfl Tryd.isAgg24 Tryd.sizeOf24 (vs := [_, _]) rfl (fun _ hs => cells_nth (hs.at (i := 2) rfl) ⟨rfl, ⟨rfl, trivial⟩⟩)) ?_
  refine RunL.still rfl rfl rfl (Still.move rfl rfl) ?_
  refine RunL.still rfl rfl rfl (Still.loads rfl rfl Tryd.isAgg24 Tryd.sizeOf24 (vs := [_, _]) rfl (fun _ hs => cells_nth (hs.at (i := 1) rfl) ⟨rfl, ⟨rfl, trivial⟩⟩)) ?_
  refine RunL.still rfl rfl rfl (Still.move rfl rfl) ?_
  refine RunL.grows rfl rfl rfl (Grows.call (vs := #[_, _, _, _]) rfl rfl Tryd.call30 (fun w hs => dg_Sum_d1 ba A ca a i bb B cb b j w (hda.sym hs) (hdb.sym hs) ha)) (fun _ _ => ?_)
  refine RunL.still rfl rfl rfl (Still.move rfl rfl) ?_
  refine RunL.still rfl rfl rfl (Still.extractN rfl rfl rfl) ?_
  refine RunL.still rfl rfl rfl (Still.extractN rfl rfl rfl) ?_
  refine RunL.grows rfl rfl rfl (Grows.alloc rfl Tryd.zeroValue24) (fun b11 _ => ?_)
  refine RunL.does0 rfl rfl (Does.store rfl rfl rfl (i := 0) rfl Tryd.sizeOf24 rfl (rfl) rfl) (fun _ _ => ?_)
  refine RunL.still rfl rfl rfl (Still.assign rfl rfl) ?_
  refine RunL.nil ?_
  refine Ends.then ?_
  refine RunC.seq ?_
  refine RunC.region ?_
  refine RunL.still rfl rfl rfl (Still.loads rfl rfl Tryd.isAgg24 Tryd.sizeOf24 (vs := [_, _]) rfl (fun _ hs => cells_nth (hs.at (i := 3) rfl) ⟨rfl, ⟨rfl, trivial⟩⟩)) ?_
  refine RunL.grows rfl rfl rfl (Grows.call (vs := #[_]) rfl rfl Tryd.call8 (fun w hs => ref_Check_v ba A ca a 220 w (hda.sym hs) va)) (fun _ _ => ?_)
  refine RunL.still rfl rfl rfl (Still.assign rfl rfl) ?_
  refine RunL.nil ?_
  refine Ends.then ?_
  refine RunC.seq ?_
  refine RunC.seq ?_
  refine RunC.region ?_
  refine RunL.still rfl rfl rfl (Still.loads rfl rfl Tryd.isAgg24 Tryd.sizeOf24 (vs := [_, _]) rfl (fun _ hs => cells_nth (hs.at (i := 2) rfl) ⟨rfl, ⟨rfl, trivial⟩⟩)) ?_
  refine RunL.grows rfl rfl rfl (Grows.call (vs := #[_]) rfl rfl Tryd.call8 (fun w hs => ref_Check_v bb B cb b (checkI b) w (hdb.sym hs) rfl)) (fun _ _ => ?_)
  refine RunL.still rfl rfl rfl (Still.assign rfl rfl) ?_
  refine RunL.nil ?_
  refine Ends.then ?_
  refine RunC.seq ?_
  refine RunC.region ?_
  refine RunL.still rfl rfl rfl (Still.move rfl rfl) ?_
  refine RunL.still rfl rfl rfl (Still.eql rfl rfl rfl) ?_
  refine RunL.again (t := 54) (u := .bool false) rfl (rfl) ?_
  refine RunL.still rfl rfl rfl (Still.move rfl rfl) ?_
  refine RunL.still rfl rfl rfl (Still.move rfl rfl) ?_
  refine RunL.still rfl rfl rfl (Still.eql rfl rfl rfl) ?_
  refine RunL.again (t := 57) (u := .bool false) rfl (rfl) ?_
  refine RunL.still rfl rfl rfl (Still.move rfl rfl) ?_
  refine RunL.off rfl rfl rfl ?_
  refine RunL.off rfl rfl rfl ?_
  refine RunL.still rfl rfl rfl (Still.pickF rfl rfl rfl) ?_
  refine RunL.still rfl rfl rfl (Still.pickF rfl rfl rfl) ?_
  refine RunL.nil ?_
  refine Ends.then ?_
  refine RunC.cond_false rfl ?_
  refine RunC.skip ?_
  refine Ends.then ?_
  refine RunC.seq ?_
  refine RunC.seq ?_
  refine RunC.region ?_
  refine RunL.still rfl rfl rfl (Still.move rfl rfl) ?_
  refine RunL.still rfl rfl rfl (Still.neq rfl rfl rfl) ?_
  refine RunL.again (t := 65) (u := .bool true) rfl (rfl) ?_
  refine RunL.nil ?_
  refine Ends.then ?_
  refine RunC.cond_true rfl ?_
  refine RunC.seq ?_
  refine RunC.region ?_
  refine RunL.grows rfl rfl rfl (Grows.call (vs := #[]) rfl rfl Tryd.call13 (fun w hs => lw_sane w)) (fun _ _ => ?_)
  refine RunL.again (t := 66) (u := .bool true) rfl (rfl) ?_
  refine RunL.still rfl rfl rfl (Still.move rfl rfl) ?_
  refine RunL.still rfl rfl rfl (Still.move rfl rfl) ?_
  refine RunL.still rfl rfl rfl (Still.move rfl rfl) ?_
  refine RunL.still rfl rfl rfl (Still.eql rfl rfl rfl) ?_
  refine RunL.again (t := 70) (u := .bool true) rfl (rfl) ?_
  refine RunL.still rfl rfl rfl (Still.pickT rfl rfl rfl) ?_
  refine RunL.still rfl rfl rfl (Still.move rfl rfl) ?_
  refine RunL.still rfl rfl rfl (Still.move rfl rfl) ?_
  refine RunL.still rfl rfl rfl (Still.move rfl rfl) ?_
  refine RunL.still rfl rfl rfl (Still.eql rfl rfl rfl) ?_
  refine RunL.again (t := 75) (u := .bool true) rfl (rfl) ?_
  refine RunL.still rfl rfl rfl (Still.pickT rfl rfl rfl) ?_
  refine RunL.still rfl rfl rfl (Still.move rfl rfl) ?_
  refine RunL.still rfl rfl rfl (Still.fieldAddrL (off := 0) (off' := 0) rfl rfl Tryd.underlying24 rfl Tryd.sizeOf22 rfl) ?_
  refine RunL.still rfl rfl rfl (Still.load rfl rfl Tryd.isAgg22 (fun _ hs => cell_nth (hs.at (i := 1) rfl) rfl)) ?_
  refine RunL.still rfl rfl rfl (Still.lenSlice rfl rfl Tryd.underlying22) ?_
  refine RunL.still rfl rfl rfl (Still.eql rfl rfl rfl) ?_
  refine RunL.again (t := 81) (u := .bool true) rfl (rfl) ?_
  refine RunL.still rfl rfl rfl (Still.pickT rfl rfl rfl) ?_
  refine RunL.still rfl rfl rfl (Still.move rfl rfl) ?_
  refine RunL.still rfl rfl rfl (Still.fieldAddrL (off := 0) (off' := 0) rfl rfl Tryd.underlying24 rfl Tryd.sizeOf22 rfl) ?_
  refine RunL.still rfl rfl rfl (Still.load rfl rfl Tryd.isAgg22 (fun _ hs => cell_nth (hs.at (i := 0) rfl) rfl)) ?_
  refine RunL.still rfl rfl rfl (Still.lenSlice rfl rfl Tryd.underlying22) ?_
  refine RunL.still rfl rfl rfl (Still.eql rfl rfl rfl) ?_
  refine RunL.again (t := 87) (u := .bool true) rfl (rfl) ?_
  refine RunL.still rfl rfl rfl (Still.pickT rfl rfl rfl) ?_
  refine RunL.still rfl rfl rfl (Still.assign rfl rfl) ?_
  refine RunL.nil ?_
  refine Ends.then ?_
  refine RunC.ret ?_
  refine Ends.then_ret ?_
  refine Ends.leave (.inl rfl) (fun _ _ ok => results1 Tryd.results6 (Holds.tmp rfl) ok) (fun w1 hs => ?_)
  exact Ret.intro () trivial rfl (HSub.nil _) hs

theorem lw_DiagSums_d2a (ba : Option Addr) (A : Addr) (ca : Nat) (a : Dia) (bb : Option Addr) (B : Addr) (cb : Nat) (b : Dia) (i j : Int) (w : World) (hda : DiaAt w ba A a) (hdb : DiaAt w bb B b) (hl : ¬ (20 < a.cross.length ∧ a.cross.length ≤ 200)) (hm : ¬ (20 < b.cross.length ∧ b.cross.length ≤ 200)) (ha : SoundP a) (hb : ¬ SoundP b) (va : checkI a = 0) (vb : checkI b = 220) : Gives Tryd.prog 6 #[diaV ba ca a, diaV bb cb b, iv i, iv j] w Nil (fun _ : Unit => True) (fun _ => .bool true) (fun _ => []) := by
  refine fn_of_run (S := Nil) (args := [diaV ba ca a, diaV bb cb b, iv i, iv j]) (n := 205) (L := []) Tryd.func6 rfl Tryd.ntmps6 (Nat.le_of_ble_eq_true rfl) (Sym.nil _ _) ?_
  change RunC _ _ _ [(0, _), (1, _), (2, _), (3, _)] _
  refine RunC.seq ?_
  refine RunC.region ?_
  refine RunL.grows rfl rfl rfl (Grows.box rfl rfl) (fun b4 _ => ?_)
  refine RunL.grows rfl rfl rfl (Grows.box rfl rfl) (fun b5 _ => ?_)
  refine RunL.still rfl rfl rfl (Still.assign rfl rfl) ?_
  refine RunL.nil ?_
  refine Ends.then ?_
  refine RunC.seq ?_
  refine RunC.seq ?_
  refine RunC.region ?_
  refine RunL.still rfl rfl rfl (Still.loads rfl rfl Tryd.isAgg24 Tryd.sizeOf24 (vs := [_, _]) rfl (fun _ hs => cells_nth (hs.at (i := 1) rfl) ⟨rfl, ⟨rfl, trivial⟩⟩)) ?_
  refine RunL.grows rfl rfl rfl (Grows.call (vs := #[_]) rfl rfl Tryd.call7 (fun w hs => lw_large ba ca a w)) (fun _ _ => ?_)
  refine RunL.again (t := 30) (u := .bool false) rfl (congrArg Value.bool (decide_eq_false (hl))) ?_
  refine RunL.still rfl rfl rfl (Still.move rfl rfl) ?_
  refine RunL.still rfl rfl rfl (Still.loads rfl rfl Tryd.isAgg24 Tryd.sizeOf24 (vs := [_, _]) rfl (fun _ hs => cells_nth (hs.at (i := 0) rfl) ⟨rfl, ⟨rfl, trivial⟩⟩)) ?_
  refine RunL.grows rfl rfl rfl (Grows.call (vs := #[_]) rfl rfl Tryd.call7 (fun w hs => lw_large bb cb b w)) (fun _ _ => ?_)
  refine RunL.again (t := 33) (u := .bool false) rfl (congrArg Value.bool (decide_eq_false (hm))) ?_
  refine RunL.still rfl rfl rfl (Still.pickF rfl rfl rfl) ?_
  refine RunL.nil ?_
  refine Ends.then ?_
  refine RunC.cond_false rfl ?_
  refine RunC.skip ?_
  refine Ends.then ?_
  refine RunC.seq ?_
  refine RunC.region ?_
  refine RunL.still rfl rfl rfl (Still.loads rfl rfl Tryd.isAgg24 Tryd.sizeOf24 (vs := [_, _]) rfl (fun _ hs => cells_nth (hs.at (i := 1) rfl) ⟨rfl, ⟨rfl, trivial⟩⟩)) ?_
  refine RunL.still rfl rfl rfl (Still.loads rfl rfl Tryd.isAgg24 Tryd.sizeOf24 (vs := [_, _]) rfl (fun _ hs => cells_nth (hs.at (i := 0) rfl) ⟨rfl, ⟨rfl, trivial⟩⟩)) ?_
  refine RunL.grows rfl rfl rfl (Grows.call (vs := #[_, _]) rfl rfl Tryd.call29 (fun w hs => dg_Union_d2 ba A ca a bb B cb b w (hda.sym hs) (hdb.sym hs) ha hb)) (fun _ _ => ?_)
  refine RunL.still rfl rfl rfl (Still.move rfl rfl) ?_
  refine RunL.still rfl rfl rfl (Still.extractN rfl rfl rfl) ?_
  refine RunL.still rfl rfl rfl (Still.extractN rfl rfl rfl) ?_
  refine RunL.grows rfl rfl rfl (Grows.alloc rfl Tryd.zeroValue24) (fun b9 _ => ?_)
  refine RunL.does0 rfl rfl (Does.store rfl rfl rfl (i := 0) rfl Tryd.sizeOf24 rfl (rfl) rfl) (fun _ _ => ?_)
  refine RunL.still rfl rfl rfl (Still.assign rfl rfl) ?_
  refine RunL.nil ?_
  refine Ends.then ?_
  refine RunC.seq ?_
  refine RunC.region ?_
  refine RunL.still rfl rfl rfl (Still.loads rfl rfl Tryd.isAgg24 Tryd.sizeOf24 (vs := [_, _]) rfl (fun _ hs => cells_nth (hs.at (i := 2) rfl) ⟨rfl, ⟨rfl, trivial⟩⟩)) ?_
  refine RunL.still rfl rfl rfl (Still.move rfl rfl) ?_
  refine RunL.still rfl rfl rfl (Still.loads rfl rfl Tryd.isAgg24 Tryd.sizeOf24 (vs := [_, _]) rfl (fun _ hs => cells_nth (hs.at (i := 1) rfl) ⟨rfl, ⟨rfl, trivial⟩⟩)) ?_
  refine RunL.still rfl rfl rfl (Still.move rfl rfl) ?_
  refine RunL.grows rfl rfl rfl (Grows.call (vs := #[_, _, _, _]) rfl rfl Tryd.call30 (fun w hs => dg_Sum_d2 ba A ca a i bb B cb b j w (hda.sym hs) (hdb.sym hs) ha hb)) (fun _ _ => ?_)
  refine RunL.still rfl rfl rfl (Still.move rfl rfl) ?_
  refine RunL.still rfl rfl rfl (Still.extractN rfl rfl rfl) ?_
  refine RunL.still rfl rfl rfl (Still.extractN rfl rfl rfl) ?_
  refine RunL.grows rfl rfl rfl (Grows.alloc rfl Tryd.zeroValue24) (fun b11 _ => ?_)
  refine RunL.does0 rfl rfl (Does.store rfl rfl rfl (i := 0) rfl Tryd.sizeOf24 rfl (rfl) rfl) (fun _ _ => ?_)
  refine RunL.still rfl rfl rfl (Still.assign rfl rfl) ?_
  refine RunL.nil ?_
  refine Ends.then ?_
  refine RunC.seq ?_
  refine RunC.region ?_
  refine RunL.still rfl rfl rfl (Still.loads rfl rfl Tryd.isAgg24 Tryd.sizeOf24 (vs := [_, _]) rfl (fun _ hs => cells_nth (hs.at (i := 3) rfl) ⟨rfl, ⟨rfl, trivial⟩⟩)) ?_
  refine RunL.grows rfl rfl rfl (Grows.call (vs := #[_]) rfl rfl Tryd.call8 (fun w hs => ref_Check_v ba A ca a 0 w (hda.sym hs) va)) (fun _ _ => ?_)
  refine RunL.still rfl rfl rfl (Still.assign rfl rfl) ?_
  refine RunL.nil ?_
  refine Ends.then ?_
  refine RunC.seq ?_
  refine RunC.seq ?_
  refine RunC.region ?_
  refine RunL.still rfl rfl rfl (Still.loads rfl rfl Tryd.isAgg24 Tryd.sizeOf24 (vs := [_, _]) rfl (fun _ hs => cells_nth (hs.at (i := 2) rfl) ⟨rfl, ⟨rfl, trivial⟩⟩)) ?_
  refine RunL.grows rfl rfl rfl (Grows.call (vs := #[_]) rfl rfl Tryd.call8 (fun w hs => ref_Check_v bb B cb b 220 w (hdb.sym hs) vb)) (fun _ _ => ?_)
  refine RunL.still rfl rfl rfl (Still.assign rfl rfl) ?_
  refine RunL.nil ?_
  refine Ends.then ?_
  refine RunC.seq ?_
  refine RunC.region ?_
  refine RunL.still rfl rfl rfl (Still.move rfl rfl) ?_
  refine RunL.still rfl rfl rfl (Still.eql rfl rfl rfl) ?_
  refine RunL.again (t := 54) (u := .bool true) rfl (rfl) ?_
  refine RunL.still rfl rfl rfl (Still.move rfl rfl) ?_
  refine RunL.off rfl rfl rfl ?_
  refine RunL.off rfl rfl rfl ?_
  refine RunL.off rfl rfl rfl ?_
  refine RunL.off rfl rfl rfl ?_
  refine RunL.off rfl rfl rfl ?_
  refine RunL.off rfl rfl rfl ?_
  refine RunL.still rfl rfl rfl (Still.pickT rfl rfl rfl) ?_
  refine RunL.nil ?_
  refine Ends.then ?_
  refine RunC.cond_true rfl ?_
  refine RunC.region ?_
  refine RunL.still rfl rfl rfl (Still.move rfl rfl) ?_
  refine RunL.still rfl rfl rfl (Still.assign rfl rfl) ?_
  refine RunL.nil ?_
  refine Ends.then ?_
  refine RunC.seq ?_
  refine RunC.seq ?_
  refine RunC.region ?_
  refine RunL.still rfl rfl rfl (Still.move rfl rfl) ?_
  refine RunL.still rfl rfl rfl (Still.neq rfl rfl rfl) ?_
  refine RunL.again (t := 65) (u := .bool true) rfl (rfl) ?_
  refine RunL.nil ?_
  refine Ends.then ?_
  refine RunC.cond_true rfl ?_
  refine RunC.seq ?_
  refine RunC.region ?_
  refine RunL.grows rfl rfl rfl (Grows.call (vs := #[]) rfl rfl Tryd.call13 (fun w hs => lw_sane w)) (fun _ _ => ?_)
  refine RunL.again (t := 66) (u := .bool true) rfl (rfl) ?_
  refine RunL.still rfl rfl rfl (Still.move rfl rfl) ?_
  refine RunL.still rfl rfl rfl (Still.move rfl rfl) ?_
  refine RunL.still rfl rfl rfl (Still.move rfl rfl) ?_
  refine RunL.still rfl rfl rfl (Still.eql rfl rfl rfl) ?_
  refine RunL.again (t := 70) (u := .bool true) rfl (rfl) ?_
  refine RunL.still rfl rfl rfl (Still.pickT rfl rfl rfl) ?_
  refine RunL.still rfl rfl rfl (Still.move rfl rfl) ?_
  refine RunL.still rfl rfl rfl (Still.move rfl rfl) ?_
  refine RunL.still rfl rfl rfl (Still.move rfl rfl) ?_
  refine RunL.still rfl rfl rfl (Still.eql rfl rfl rfl) ?_
  refine RunL.again (t := 75) (u := .bool true) rfl (rfl) ?_
  refine RunL.still rfl rfl rfl (Still.pickT rfl rfl rfl) ?_
  refine RunL.still rfl rfl rfl (Still.move rfl rfl) ?_
  refine RunL.still rfl rfl rfl (Still.fieldAddrL (off := 0) (off' := 0) rfl rfl Tryd.underlying24 rfl Tryd.sizeOf22 rfl) ?_
  refine RunL.still rfl rfl rfl (Still.load rfl rfl Tryd.isAgg22 (fun _ hs => cell_nth (hs.at (i := 1) rfl) rfl)) ?_
  refine RunL.still rfl rfl rfl (Still.lenSlice rfl rfl Tryd.underlying22) ?_
  refine RunL.still rfl rfl rfl (Still.eql rfl rfl rfl) ?_
  refine RunL.again (t := 81) (u := .bool true) rfl (rfl) ?_
  refine RunL.still rfl rfl rfl (Still.pickT rfl rfl rfl) ?_
  refine RunL.still rfl rfl rfl (Still.move rfl rfl) ?_
  refine RunL.still rfl rfl rfl (Still.fieldAddrL (off := 0) (off' := 0) rfl rfl Tryd.underlying24 rfl Tryd.sizeOf22 rfl) ?_
  refine RunL.still rfl rfl rfl (Still.load rfl rfl Tryd.isAgg22 (fun _ hs => cell_nth (hs.at (i := 0) rfl) rfl)) ?_
  refine RunL.still rfl rfl rfl (Still.lenSlice rfl rfl Tryd.underlying22) ?_
  refine RunL.still rfl rfl rfl (Still.eql rfl rfl rfl) ?_
  refine RunL.again (t := 87) (u := .bool true) rfl (rfl) ?_
  refine RunL.still rfl rfl rfl (Still.pickT rfl rfl rfl) ?_
  refine RunL.still rfl rfl rfl (Still.assign rfl rfl) ?_
  refine RunL.nil ?_
  refine Ends.then ?_
  refine RunC.ret ?_
  refine Ends.then_ret ?_
  refine Ends.leave (.inl rfl) (fun _ _ ok => results1 Tryd.results6 (Holds.tmp rfl) ok) (fun w1 hs => ?_)
  exact Ret.intro () trivial rfl (HSub.nil _) hs

theorem lw_DiagSums_d2b (ba : Option Addr) (A : Addr) (ca : Nat) (a : Dia) (bb : Option Addr) (B : Addr) (cb : Nat) (b : Dia) (i j : Int) (w : World) (hda : DiaAt w ba A a) (hdb : DiaAt w bb B b) (hl : ¬ (20 < a.cross.length ∧ a.cross.length ≤ 200)) (hm : ¬ (20 < b.cross.length ∧ b.cross.length ≤ 200)) (ha : SoundP a) (hb : ¬ SoundP b) (va : checkI a = 221) (vb : checkI b = 220) : Gives Tryd.prog 6 #[diaV ba ca a, diaV bb cb b, iv i, iv j] w Nil (fun _ : Unit => True) (fun _ => .bool true) (fun _ => []) := by
  refine fn_of_run (S := Nil) (args := [diaV ba ca a, diaV bb cb b, iv i, iv j]) (n := 205) (L := []) Tryd.func6 rfl Tryd.ntmps6 (Nat.le_of_ble_eq_true rfl) (Sym.nil _ _) ?_
  change RunC _ _ _ [(0, _), (1, _), (2, _), (3, _)] _
  refine RunC.seq ?_
  refine RunC.region ?_
  refine RunL.grows rfl rfl rfl (Grows.box rfl rfl) (fun b4 _ => ?_)
  refine RunL.grows rfl rfl rfl (Grows.box rfl rfl) (fun b5 _ => ?_)
  refine RunL.still rfl rfl rfl (Still.assign rfl rfl) ?_
  refine RunL.nil ?_
  refine Ends.then ?_
  refine RunC.seq ?_
  refine RunC.seq ?_
  refine RunC.region ?_
  refine RunL.still rfl rfl rfl (Still.loads rfl rfl Tryd.isAgg24 Tryd.sizeOf24 (vs := [_, _]) rfl (fun _ hs => cells_nth (hs.at (i := 1) rfl) ⟨rfl, ⟨rfl, trivial⟩⟩)) ?_
  refine RunL.grows rfl rfl rfl (Grows.call (vs := #[_]) rfl rfl Tryd.call7 (fun w hs => lw_large ba ca a w)) (fun _ _ => ?_)
  refine RunL.again (t := 30) (u := .bool false) rfl (congrArg Value.bool (decide_eq_false (hl))) ?_
  refine RunL.still rfl rfl rfl (Still.move rfl rfl) ?_
  refine RunL.still rfl rfl rfl (Still.loads rfl rfl Tryd.isAgg24 Tryd.sizeOf24 (vs := [_, _]) rfl (fun _ hs => cells_nth (hs.at (i := 0) rfl) ⟨rfl, ⟨rfl, trivial⟩⟩)) ?_
  refine RunL.grows rfl rfl rfl (Grows.call (vs := #[_]) rfl rfl Tryd.call7 (fun w hs => lw_large bb cb b w)) (fun _ _ => ?_)
  refine RunL.again (t := 33) (u := .bool false) rfl (congrArg Value.bool (decide_eq_false (hm))) ?_
  refine RunL.still rfl rfl rfl (Still.pickF rfl rfl rfl) ?_
  refine RunL.nil ?_
  refine Ends.then ?_
  refine RunC.cond_false rfl ?_
  refine RunC.skip ?_
  refine Ends.then ?_
  refine RunC.seq ?_
  refine RunC.region ?_
  refine RunL.still rfl rfl rfl (Still.loads rfl rfl Tryd.isAgg24 Tryd.sizeOf24 (vs := [_, _]) rfl (fun _ hs => cells_nth (hs.at (i := 1) rfl) ⟨rfl, ⟨rfl, trivial⟩⟩)) ?_
  refine RunL.still rfl rfl rfl (Still.loads rfl rfl Tryd.isAgg24 Tryd.sizeOf24 (vs := [_, _]) rfl (fun _ hs => cells_nth (hs.at (i := 0) rfl) ⟨rfl, ⟨rfl, trivial⟩⟩)) ?_
  refine RunL.grows rfl rfl rfl (Grows.call (vs := #[_, _]) rfl rfl Tryd.call29 (fun w hs => dg_Union_d2 ba A ca a bb B cb b w (hda.sym hs) (hdb.sym hs) ha hb)) (fun _ _ => ?_)
  refine RunL.still rfl rfl rfl (Still.move rfl rfl) ?_
  refine RunL.still rfl rfl rfl (Still.extractN rfl rfl rfl) ?_
  refine RunL.still rfl rfl rfl (Still.extractN rfl rfl rfl) ?_
  refine RunL.grows rfl rfl rfl (Grows.alloc rfl Tryd.zeroValue24) (fun b9 _ => ?_)
  refine RunL.does0 rfl rfl (Does.store rfl rfl rfl (i := 0) rfl Tryd.sizeOf24 rfl (rfl) rfl) (fun _ _ => ?_)
  refine RunL.still rfl rfl rfl (Still.assign rfl rfl) ?_
  refine RunL.nil ?_
  refine Ends.then ?_
  refine RunC.seq ?_
  refine RunC.region ?_
  refine RunL.still rfl rfl rfl (Still.loads rfl rfl Tryd.isAgg24 Tryd.sizeOf24 (vs := [_, _]) rfl (fun _ hs => cells_nth (hs.at (i := 2) rfl) ⟨rfl, ⟨rfl, trivial⟩⟩)) ?_
  refine RunL.still rfl rfl rfl (Still.move rfl rfl) ?_
  refine RunL.still rfl rfl rfl (Still.loads rfl rfl Tryd.isAgg24 Tryd.sizeOf24 (vs := [_, _]) rfl (fun _ hs => cells_nth (hs.at (i := 1) rfl) ⟨rfl, ⟨rfl, trivial⟩⟩)) ?_
  refine RunL.still rfl rfl rfl (Still.move rfl rfl) ?_
  refine RunL.grows rfl rfl rfl (Grows.call (vs := #[_, _, _, _]) rfl rfl Tryd.call30 (fun w hs => dg_Sum_d2 ba A ca a i bb B cb b j w (hda.sym hs) (hdb.sym hs) ha hb)) (fun _ _ => ?_)
  refine RunL.still rfl rfl rfl (Still.move rfl rfl) ?_
  refine RunL.still rfl rfl rfl (Still.extractN rfl rfl rfl) ?_
  refine RunL.still rfl rfl rfl (Still.extractN rfl rfl rfl) ?_
  refine RunL.grows rfl rfl rfl (Grows.alloc rfl Tryd.zeroValue24) (fun b11 _ => ?_)
  refine RunL.does0 rfl rfl (Does.store rfl rfl rfl (i := 0) rfl Tryd.sizeOf24 rfl (rfl) rfl) (fun _ _ => ?_)
  refine RunL.still rfl rfl rfl (Still.assign rfl rfl) ?_
  refine RunL.nil ?_
  refine Ends.then ?_
  refine RunC.seq ?_
  refine RunC.region ?_
  refine RunL.still rfl rfl rfl (Still.loads rfl rfl Tryd.isAgg24 Tryd.sizeOf24 (vs := [_, _]) rfl (fun _ hs => cells_nth (hs.at (i := 3) rfl) ⟨rfl, ⟨rfl, trivial⟩⟩)) ?_
  refine RunL.grows rfl rfl rfl (Grows.call (vs := #[_]) rfl rfl Tryd.call8 (fun w hs => ref_Check_v ba A ca a 221 w (hda.sym hs) va)) (fun _ _ => ?_)
  refine RunL.still rfl rfl rfl (Still.assign rfl rfl) ?_
  refine RunL.nil ?_
  refine Ends.then ?_
  refine RunC.seq ?_
  refine RunC.seq ?_
  refine RunC.region ?_
  refine RunL.still rfl rfl rfl (Still.loads rfl rfl Tryd.isAgg24 Tryd.sizeOf24 (vs := [_, _]) rfl (fun _ hs => cells_nth (hs.at (i := 2) rfl) ⟨rfl, ⟨rfl, trivial⟩⟩)) ?_
  refine RunL.grows rfl rfl rfl (Grows.call (vs := #[_]) rfl rfl Tryd.call8 (fun w hs => ref_Check_v bb B cb b 220 w (hdb.sym hs) vb)) (fun _ _ => ?_)
  refine RunL.still rfl rfl rfl (Still.assign rfl rfl) ?_
  refine RunL.nil ?_
  refine Ends.then ?_
  refine RunC.seq ?_
  refine RunC.region ?_
  refine RunL.still rfl rfl rfl (Still.move rfl rfl) ?_
  refine RunL.still rfl rfl rfl (Still.eql rfl rfl rfl) ?_
  refine RunL.again (t := 54) (u := .bool false) rfl (rfl) ?_
  refine RunL.still rfl rfl rfl (Still.move rfl rfl) ?_
  refine RunL.still rfl rfl rfl (Still.move rfl rfl) ?_
  refine RunL.still rfl rfl rfl (Still.eql rfl rfl rfl) ?_
  refine RunL.again (t := 57) (u := .bool true) rfl (rfl) ?_
  refine RunL.still rfl rfl rfl (Still.move rfl rfl) ?_
  refine RunL.still rfl rfl rfl (Still.move rfl rfl) ?_
  refine RunL.still rfl rfl rfl (Still.eql rfl rfl rfl) ?_
  refine RunL.again (t := 60) (u := .bool true) rfl (rfl) ?_
  refine RunL.still rfl rfl rfl (Still.pickT rfl rfl rfl) ?_
  refine RunL.still rfl rfl rfl (Still.pickF rfl rfl rfl) ?_
  refine RunL.nil ?_
  refine Ends.then ?_
  refine RunC.cond_true rfl ?_
  refine RunC.region ?_
  refine RunL.still rfl rfl rfl (Still.move rfl rfl) ?_
  refine RunL.still rfl rfl rfl (Still.assign rfl rfl) ?_
  refine RunL.nil ?_
  refine Ends.then ?_
  refine RunC.seq ?_
  refine RunC.seq ?_
  refine RunC.region ?_
  refine RunL.still rfl rfl rfl (Still.move rfl rfl) ?_
  refine RunL.still rfl rfl rfl (Still.neq rfl rfl rfl) ?_
  refine RunL.again (t := 65) (u := .bool true) rfl (rfl) ?_
  refine RunL.nil ?_
  refine Ends.then ?_
  refine RunC.cond_true rfl ?_
  refine RunC.seq ?_
  refine RunC.region ?_
  refine RunL.grows rfl rfl rfl (Grows.call (vs := #[]) rfl rfl Tryd.call13 (fun w hs => lw_sane w)) (fun _ _ => ?_)
  refine RunL.again (t := 66) (u := .bool true) rfl (rfl) ?_
  refine RunL.still rfl rfl rfl (Still.move rfl rfl) ?_
  refine RunL.still rfl rfl rfl (Still.move rfl rfl) ?_
  refine RunL.still rfl rfl rfl (Still.move rfl rfl) ?_
  refine RunL.still rfl rfl rfl (Still.eql rfl rfl rfl) ?_
  refine RunL.again (t := 70) (u := .bool true) rfl (rfl) ?_
  refine RunL.still rfl rfl rfl (Still.pickT rfl rfl rfl) ?_
  refine RunL.still rfl rfl rfl (Still.move rfl rfl) ?_
  refine RunL.still rfl rfl rfl (Still.move rfl rfl) ?_
  refine RunL.still rfl rfl rfl (Still.move rfl rfl) ?_
  refine RunL.still rfl rfl rfl (Still.eql rfl rfl rfl) ?_
  refine RunL.again (t := 75) (u := .bool true) rfl (rfl) ?_
  refine RunL.still rfl rfl rfl (Still.pickT rfl rfl rfl) ?_
  refine RunL.still rfl rfl rfl (Still.move rfl rfl) ?_
  refine RunL.still rfl rfl rfl (Still.fieldAddrL (off := 0) (off' := 0) rfl rfl Tryd.underlying24 rfl Tryd.sizeOf22 rfl) ?_
  refine RunL.still rfl rfl rfl (Still.load rfl rfl Tryd.isAgg22 (fun _ hs => cell_nth (hs.at (i := 1) rfl) rfl)) ?_
  refine RunL.still rfl rfl rfl (Still.lenSlice rfl rfl Tryd.underlying22) ?_
  refine RunL.still rfl rfl rfl (Still.eql rfl rfl rfl) ?_
  refine RunL.again (t := 81) (u := .bool true) rfl (rfl) ?_
  refine RunL.still rfl rfl rfl (Still.pickT rfl rfl rfl) ?_
  refine RunL.still rfl rfl rfl (Still.move rfl rfl) ?_
  refine RunL.still rfl rfl rfl (Still.fieldAddrL (off := 0) (off' := 0) rfl rfl Tryd.underlying24 rfl Tryd.sizeOf22 rfl) ?_
  refine RunL.still rfl rfl rfl (Still.load rfl rfl Tryd.isAgg22 (fun _ hs => cell_nth (hs.at (i := 0) rfl) rfl)) ?_
  refine RunL.still rfl rfl rfl (Still.lenSlice rfl rfl Tryd.underlying22) ?_
  refine RunL.still rfl rfl rfl (Still.eql rfl rfl rfl) ?_
  refine RunL.again (t := 87) (u := .bool true) rfl (rfl) ?_
  refine RunL.still rfl rfl rfl (Still.pickT rfl rfl rfl) ?_
  refine RunL.still rfl rfl rfl (Still.assign rfl rfl) ?_
  refine RunL.nil ?_
  refine Ends.then ?_
  refine RunC.ret ?_
  refine Ends.then_ret ?_
  refine Ends.leave (.inl rfl) (fun _ _ ok => results1 Tryd.results6 (Holds.tmp rfl) ok) (fun w1 hs => ?_)
  exact Ret.intro () trivial rfl (HSub.nil _) hs

theorem lw_DiagSums_p1 (ba : Option Addr) (A : Addr) (ca : Nat) (a : Dia) (bb : Option Addr) (B : Addr) (cb : Nat) (b : Dia) (i j : Int) (w : World) (hda : DiaAt w ba A a) (hdb : DiaAt w bb B b) (hl : ¬ (20 < a.cross.length ∧ a.cross.length ≤ 200)) (hm : ¬ (20 < b.cross.length ∧ b.cross.length ≤ 200)) (ha : SoundP a) (hb : SoundP b) (va : checkI a = 221) (vb : checkI b ≠ 220) : Gives Tryd.prog 6 #[diaV ba ca a, diaV bb cb b, iv i, iv j] w Nil (fun _ : Unit => True) (fun _ => .bool true) (fun _ => []) := by
  refine fn_of_run (S := Nil) (args := [diaV ba ca a, diaV bb cb b, iv i, iv j]) (n := 205) (L := []) Tryd.func6 rfl Tryd.ntmps6 (Nat.le_of_ble_eq_true rfl) (Sym.nil _ _) ?_
  change RunC _ _ _ [(0, _), (1, _), (2, _), (3, _)] _
  refine RunC.seq ?_
  refine RunC.region ?_
  refine RunL.grows rfl rfl rfl (Grows.box rfl rfl) (fun b4 _ => ?_)
  refine RunL.grows rfl rfl rfl (Grows.box rfl rfl) (fun b5 _ => ?_)
  refine RunL.still rfl rfl rfl (Still.assign rfl rfl) ?_
  refine RunL.nil ?_
  refine Ends.then ?_
  refine RunC.seq ?_
  refine RunC.seq ?_
  refine RunC.region ?_
  refine RunL.still rfl rfl rfl (Still.loads rfl rfl Tryd.isAgg24 Tryd.sizeOf24 (vs := [_, _]) rfl (fun _ hs => cells_nth (hs.at (i := 1) rfl) ⟨rfl, ⟨rfl, trivial⟩⟩)) ?_
  refine RunL.grows rfl rfl rfl (Grows.call (vs := #[_]) rfl rfl Tryd.call7 (fun w hs => lw_large ba ca a w)) (fun _ _ => ?_)
  refine RunL.again (t := 30) (u := .bool false) rfl (congrArg Value.bool (decide_eq_false (hl))) ?_
  refine RunL.still rfl rfl rfl (Still.move rfl rfl) ?_
  refine RunL.still rfl rfl rfl (Still.loads rfl rfl Tryd.isAgg24 Tryd.sizeOf24 (vs := [_, _]) rfl (fun _ hs => cells_nth (hs.at (i := 0) rfl) ⟨rfl, ⟨rfl, trivial⟩⟩)) ?_
  refine RunL.grows rfl rfl rfl (Grows.call (vs := #[_]) rfl rfl Tryd.call7 (fun w hs => lw_large bb cb b w)) (fun _ _ => ?_)
  refine RunL.again (t := 33) (u := .bool false) rfl (congrArg Value.bool (decide_eq_false (hm))) ?_
  refine RunL.still rfl rfl rfl (Still.pickF rfl rfl rfl) ?_
  refine RunL.nil ?_
  refine Ends.then ?_
  refine RunC.cond_false rfl ?_
  refine RunC.skip ?_
  refine Ends.then ?_
  refine RunC.seq ?_
  refine RunC.region ?_
  refine RunL.still rfl rfl rfl (Still.loads rfl rfl Tryd.isAgg24 Tryd.sizeOf24 (vs := [_, _]) rfl (fun _ hs => cells_nth (hs.at (i := 1) rfl) ⟨rfl, ⟨rfl, trivial⟩⟩)) ?_
  refine RunL.still rfl rfl rfl (Still.loads rfl rfl Tryd.isAgg24 Tryd.sizeOf24 (vs := [_, _]) rfl (fun _ hs => cells_nth (hs.at (i := 0) rfl) ⟨rfl, ⟨rfl, trivial⟩⟩)) ?_
  refine RunL.grows rfl rfl rfl (Grows.call (vs := #[_, _]) rfl rfl Tryd.call29 (fun w hs => dg_Union_p1 ba A ca a bb B cb b w (hda.sym hs) (hdb.sym hs) ha hb (by rw [va]; decide))) (fun _ _ => ?_)
  refine RunL.still rfl rfl rfl (Still.move rfl rfl) ?_
  refine RunL.still rfl rfl rfl (Still.extractN rfl rfl rfl) ?_
  refine RunL.still rfl rfl rfl (Still.extractN rfl rfl rfl) ?_
  refine RunL.grows rfl rfl rfl (Grows.alloc rfl Tryd.zeroValue24) (fun b9 _ => ?_)
  refine RunL.does0 rfl rfl (Does.store rfl rfl rfl (i := 0) rfl Tryd.sizeOf24 rfl (rfl) rfl) (fun _ _ => ?_)
  refine RunL.still rfl rfl rfl (Still.assign rfl rfl) ?_
  refine RunL.nil ?_
  refine Ends.then ?_
  refine RunC.seq ?_
  refine RunC.region ?_
  refine RunL.still rfl rfl rfl (Still.loads rfl rfl Tryd.isAgg24 Tryd.sizeOf24 (vs := [_, _]) rfl (fun _ hs => cells_nth (hs.at (i := 2) rfl) ⟨rfl, ⟨rfl, trivial⟩⟩)) ?_
  refine RunL.still rfl rfl rfl (Still.move rfl rfl) ?_
  refine RunL.still rfl rfl rfl (Still.loads rfl rfl Tryd.isAgg24 Tryd.sizeOf24 (vs := [_, _]) rfl (fun _ hs => cells_nth (hs.at (i := 1) rfl) ⟨rfl, ⟨rfl, trivial⟩⟩)) ?_
  refine RunL.still rfl rfl rfl (Still.move rfl rfl) ?_
  refine RunL.grows rfl rfl rfl (Grows.call (vs := #[_, _, _, _]) rfl rfl Tryd.call30 (fun w hs => dg_Sum_p1 ba A ca a i bb B cb b j w (hda.sym hs) (hdb.sym hs) ha hb (by rw [va]; decide))) (fun _ _ => ?_)
  refine RunL.still rfl rfl rfl (Still.move rfl rfl) ?_
  refine RunL.still rfl rfl rfl (Still.extractN rfl rfl rfl) ?_
  refine RunL.still rfl rfl rfl (Still.extractN rfl rfl rfl) ?_
  refine RunL.grows rfl rfl rfl (Grows.alloc rfl Tryd.zeroValue24) (fun b11 _ => ?_)
  refine RunL.does0 rfl rfl (Does.store rfl rfl rfl (i := 0) rfl Tryd.sizeOf24 rfl (rfl) rfl) (fun _ _ => ?_)
  refine RunL.still rfl rfl rfl (Still.assign rfl rfl) ?_
  refine RunL.nil ?_
  refine Ends.then ?_
  refine RunC.seq ?_
  refine RunC.region ?_
  refine RunL.still rfl rfl rfl (Still.loads rfl rfl Tryd.isAgg24 Tryd.sizeOf24 (vs := [_, _]) rfl (fun _ hs => cells_nth (hs.at (i := 3) rfl) ⟨rfl, ⟨rfl, trivial⟩⟩)) ?_
  refine RunL.grows rfl rfl rfl (Grows.call (vs := #[_]) rfl rfl Tryd.call8 (fun w hs => ref_Check_v ba A ca a 221 w (hda.sym hs) va)) (fun _ _ => ?_)
  refine RunL.still rfl rfl rfl (Still.assign rfl rfl) ?_
  refine RunL.nil ?_
  refine Ends.then ?_
  refine RunC.seq ?_
  refine RunC.seq ?_
  refine RunC.region ?_
  refine RunL.still rfl rfl rfl (Still.loads rfl rfl Tryd.isAgg24 Tryd.sizeOf24 (vs := [_, _]) rfl (fun _ hs => cells_nth (hs.at (i := 2) rfl) ⟨rfl, ⟨rfl, trivial⟩⟩)) ?_
  refine RunL.grows rfl rfl rfl (Grows.call (vs := #[_]) rfl rfl Tryd.call8 (fun w hs => ref_Check_v bb B cb b (checkI b) w (hdb.sym hs) rfl)) (fun _ _ => ?_)
  refine RunL.still rfl rfl rfl (Still.assign rfl rfl) ?_
  refine RunL.nil ?_
  refine Ends.then ?_
  refine RunC.seq ?_
  refine RunC.region ?_
  refine RunL.still rfl rfl rfl (Still.move rfl rfl) ?_
  refine RunL.still rfl rfl rfl (Still.eql rfl rfl rfl) ?_
  refine RunL.again (t := 54) (u := .bool false) rfl (rfl) ?_
  refine RunL.still rfl rfl rfl (Still.move rfl rfl) ?_
  refine RunL.still rfl rfl rfl (Still.move rfl rfl) ?_
  refine RunL.still rfl rfl rfl (Still.eql rfl rfl rfl) ?_
  refine RunL.again (t := 57) (u := .bool true) rfl (rfl) ?_
  refine RunL.still rfl rfl rfl (Still.move rfl rfl) ?_
  refine RunL.still rfl rfl rfl (Still.move rfl rfl) ?_
  refine RunL.still rfl rfl rfl (Still.eql rfl rfl rfl) ?_
  refine RunL.again (t := 60) (u := .bool false) rfl (congrArg Value.bool (decide_eq_false (vb))) ?_
  refine RunL.still rfl rfl rfl (Still.pickT rfl rfl rfl) ?_
  refine RunL.still rfl rfl rfl (Still.pickF rfl rfl rfl) ?_
  refine RunL.nil ?_
  refine Ends.then ?_
  refine RunC.cond_false rfl ?_
  refine RunC.skip ?_
  refine Ends.then ?_
  refine RunC.seq ?_
  refine RunC.seq ?_
  refine RunC.region ?_
  refine RunL.still rfl rfl rfl (Still.move rfl rfl) ?_
  refine RunL.still rfl rfl rfl (Still.neq rfl rfl rfl) ?_
  refine RunL.again (t := 65) (u := .bool true) rfl (rfl) ?_
  refine RunL.nil ?_
  refine Ends.then ?_
  refine RunC.cond_true rfl ?_
  refine RunC.seq ?_
  refine RunC.region ?_
  refine RunL.grows rfl rfl rfl (Grows.call (vs := #[]) rfl rfl Tryd.call13 (fun w hs => lw_sane w)) (fun _ _ => ?_)
  refine RunL.again (t := 66) (u := .bool true) rfl (rfl) ?_
  refine RunL.still rfl rfl rfl (Still.move rfl rfl) ?_
  refine RunL.still rfl rfl rfl (Still.move rfl rfl) ?_
  refine RunL.still rfl rfl rfl (Still.move rfl rfl) ?_
  refine RunL.still rfl rfl rfl (Still.eql rfl rfl rfl) ?_
  refine RunL.again (t := 70) (u := .bool true) rfl (rfl) ?_
  refine RunL.still rfl rfl rfl (Still.pickT rfl rfl rfl) ?_
  refine RunL.still rfl rfl rfl (Still.move rfl rfl) ?_
  refine RunL.still rfl rfl rfl (Still.move rfl rfl) ?_
  refine RunL.still rfl rfl rfl (Still.move rfl rfl) ?_
  refine RunL.still rfl rfl rfl (Still.eql rfl rfl rfl) ?_
  refine RunL.again (t := 75) (u := .bool true) rfl (rfl) ?_
  refine RunL.still rfl rfl rfl (Still.pickT rfl rfl rfl) ?_
  refine RunL.still rfl rfl rfl (Still.move rfl rfl) ?_
  refine RunL.still rfl rfl rfl (Still.fieldAddrL (off := 0) (off' := 0) rfl rfl Tryd.underlying24 rfl Tryd.sizeOf22 rfl) ?_
  refine RunL.still rfl rfl rfl (Still.load rfl rfl Tryd.isAgg22 (fun _ hs => cell_nth (hs.at (i := 1) rfl) rfl)) ?_
  refine RunL.still rfl rfl rfl (Still.lenSlice rfl rfl Tryd.underlying22) ?_
  refine RunL.still rfl rfl rfl (Still.eql rfl rfl rfl) ?_
  refine RunL.again (t := 81) (u := .bool true) rfl (rfl) ?_
  refine RunL.still rfl rfl rfl (Still.pickT rfl rfl rfl) ?_
  refine RunL.still rfl rfl rfl (Still.move rfl rfl) ?_
  refine RunL.still rfl rfl rfl (Still.fieldAddrL (off := 0) (off' := 0) rfl rfl Tryd.underlying24 rfl Tryd.sizeOf22 rfl) ?_
  refine RunL.still rfl rfl rfl (Still.load rfl rfl Tryd.isAgg22 (fun _ hs => cell_nth (hs.at (i := 0) rfl) rfl)) ?_
  refine RunL.still rfl rfl rfl (Still.lenSlice rfl rfl Tryd.underlying22) ?_
  refine RunL.still rfl rfl rfl (Still.eql rfl rfl rfl) ?_
  refine RunL.again (t := 87) (u := .bool true) rfl (rfl) ?_
  refine RunL.still rfl rfl rfl (Still.pickT rfl rfl rfl) ?_
  refine RunL.still rfl rfl rfl (Still.assign rfl rfl) ?_
  refine RunL.nil ?_
  refine Ends.then ?_
  refine RunC.ret ?_
  refine Ends.then_ret ?_
  refine Ends.leave (.inl rfl) (fun _ _ ok => results1 Tryd.results6 (Holds.tmp rfl) ok) (fun w1 hs => ?_)
  exact Ret.intro () trivial rfl (HSub.nil _) hs

theorem lw_DiagSums_p2 (ba : Option Addr) (A : Addr) (ca : Nat) (a : Dia) (bb : Option Addr) (B : Addr) (cb : Nat) (b : Dia) (i j : Int) (w : World) (hda : DiaAt w ba A a) (hdb : DiaAt w bb B b) (hl : ¬ (20 < a.cross.length ∧ a.cross.length ≤ 200)) (hm : ¬ (20 < b.cross.length ∧ b.cross.length ≤ 200)) (ha : SoundP a) (hb : SoundP b) (va : checkI a = 0) (vb : checkI b = 221) : Gives Tryd.prog 6 #[diaV ba ca a, diaV bb cb b, iv i, iv j] w Nil (fun _ : Unit => True) (fun _ => .bool true) (fun _ => []) := by
  refine fn_of_run (S := Nil) (args := [diaV ba ca a, diaV bb cb b, iv i, iv j]) (n := 205) (L := []) Tryd.func6 rfl Tryd.ntmps6 (Nat.le_of_ble_eq_true rfl) (Sym.nil _ _) ?_
  change RunC _ _ _ [(0, _), (1, _), (2, _), (3, _)] _
  refine RunC.seq ?_
  refine RunC.region ?_
  refine RunL.grows rfl rfl rfl (Grows.box rfl rfl) (fun b4 _ => ?_)
  refine RunL.grows rfl rfl rfl (Grows.box rfl rfl) (fun b5 _ => ?_)
  refine RunL.still rfl rfl rfl (Still.assign rfl rfl) ?_
  refine RunL.nil ?_
  refine Ends.then ?_
  refine RunC.seq ?_
  refine RunC.seq ?_
  refine RunC.region ?_
  refine RunL.still rfl rfl rfl (Still.loads rfl rfl Tryd.isAgg24 Tryd.sizeOf24 (vs := [_, _]) rfl (fun _ hs => cells_nth (hs.at (i := 1) rfl) ⟨rfl, ⟨rfl, trivial⟩⟩)) ?_
  refine RunL.grows rfl rfl rfl (Grows.call (vs := #[_]) rfl rfl Tryd.call7 (fun w hs => lw_large ba ca a w)) (fun _ _ => ?_)
  refine RunL.again (t := 30) (u := .bool false) rfl (congrArg Value.bool (decide_eq_false (hl))) ?_
  refine RunL.still rfl rfl rfl (Still.move rfl rfl) ?_
  refine RunL.still rfl rfl rfl (Still.loads rfl rfl Tryd.isAgg24 Tryd.sizeOf24 (vs := [_, _]) rfl (fun _ hs => cells_nth (hs.at (i := 0) rfl) ⟨rfl, ⟨rfl, trivial⟩⟩)) ?_
  refine RunL.grows rfl rfl rfl (Grows.call (vs := #[_]) rfl rfl Tryd.call7 (fun w hs => lw_large bb cb b w)) (fun _ _ => ?_)
  refine RunL.again (t := 33) (u := .bool false) rfl (congrArg Value.bool (decide_eq_false (hm))) ?_
  refine RunL.still rfl rfl rfl (Still.pickF rfl rfl rfl) ?_
  refine RunL.nil ?_
  refine Ends.then ?_
  refine RunC.cond_false rfl ?_
  refine RunC.skip ?_
  refine Ends.then ?_
  refine RunC.seq ?_
  refine RunC.region ?_
  refine RunL.still rfl rfl rfl (Still.loads rfl rfl Tryd.isAgg24 Tryd.sizeOf24 (vs := [_, _]) rfl (fun _ hs => cells_nth (hs.at (i := 1) rfl) ⟨rfl, ⟨rfl, trivial⟩⟩)) ?_
  refine RunL.still rfl rfl rfl (Still.loads rfl rfl Tryd.isAgg24 Tryd.sizeOf24 (vs := [_, _]) rfl (fun _ hs => cells_nth (hs.at (i := 0) rfl) ⟨rfl, ⟨rfl, trivial⟩⟩)) ?_
  refine RunL.grows rfl rfl rfl (Grows.call (vs := #[_, _]) rfl rfl Tryd.call29 (fun w hs => dg_Union_p2 ba A ca a bb B cb b w (hda.sym hs) (hdb.sym hs) ha hb va (by rw [vb]; decide))) (fun _ _ => ?_)
  refine RunL.still rfl rfl rfl (Still.move rfl rfl) ?_
  refine RunL.still rfl rfl rfl (Still.extractN rfl rfl rfl) ?_
  refine RunL.still rfl rfl rfl (Still.extractN rfl rfl rfl) ?_
  refine RunL.grows rfl rfl rfl (Grows.alloc rfl Tryd.zeroValue24) (fun b9 _ => ?_)
  refine RunL.does0 rfl rfl (Does.store rfl rfl rfl (i := 0) rfl Tryd.sizeOf24 rfl (rfl) rfl) (fun _ _ => ?_)
  refine RunL.still rfl rfl rfl (Still.assign rfl rfl) ?_
  refine RunL.nil ?_
  refine Ends.then ?_
  refine RunC.seq ?_
  refine RunC.region ?_
  refine RunL.still rfl rfl rfl (Still.loads rfl rfl Tryd.isAgg24 Tryd.sizeOf24 (vs := [_, _]) rfl (fun _ hs => cells_nth (hs.at (i := 2) rfl) ⟨rfl, ⟨rfl, trivial⟩⟩)) ?_
  refine RunL.still rfl rfl rfl (Still.move rfl rfl) ?_
  refine RunL.still rfl rfl rfl (Still.loads rfl rfl Tryd.isAgg24 Tryd.sizeOf24 (vs := [_, _]) rfl (fun _ hs => cells_nth (hs.at (i := 1) rfl) ⟨rfl, ⟨rfl, trivial⟩⟩)) ?_
  refine RunL.still rfl rfl rfl (Still.move rfl rfl) ?_
  refine RunL.grows rfl rfl rfl (Grows.call (vs := #[_, _, _, _]) rfl rfl Tryd.call30 (fun w hs => dg_Sum_p2 ba A ca a i bb B cb b j w (hda.sym hs) (hdb.sym hs) ha hb va (by rw [vb]; decide))) (fun _ _ => ?_)
  refine RunL.still rfl rfl rfl (Still.move rfl rfl) ?_
  refine RunL.still rfl rfl rfl (Still.extractN rfl rfl rfl) ?_
  refine RunL.still rfl rfl rfl (Still.extractN rfl rfl rfl) ?_
  refine RunL.grows rfl rfl rfl (Grows.alloc rfl Tryd.zeroValue24) (fun b11 _ => ?_)
  refine RunL.does0 rfl rfl (Does.store rfl rfl rfl (i := 0) rfl Tryd.sizeOf24 rfl (rfl) rfl) (fun _ _ => ?_)
  refine RunL.still rfl rfl rfl (Still.assign rfl rfl) ?_
  refine RunL.nil ?_
  refine Ends.then ?_
  refine RunC.seq ?_
  refine RunC.region ?_
  refine RunL.still rfl rfl rfl (Still.loads rfl rfl Tryd.isAgg24 Tryd.sizeOf24 (vs := [_, _]) rfl (fun _ hs => cells_nth (hs.at (i := 3) rfl) ⟨rfl, ⟨rfl, trivial⟩⟩)) ?_
  refine RunL.grows rfl rfl rfl (Grows.call (vs := #[_]) rfl rfl Tryd.call8 (fun w hs => ref_Check_v ba A ca a 0 w (hda.sym hs) va)) (fun _ _ => ?_)
  refine RunL.still rfl rfl rfl (Still.assign rfl rfl) ?_
  refine RunL.nil ?_
  refine Ends.then ?_
  refine RunC.seq ?_
  refine RunC.seq ?_
  refine RunC.region ?_
  refine RunL.still rfl rfl rfl (Still.loads rfl rfl Tryd.isAgg24 Tryd.sizeOf24 (vs := [_, _]) rfl (fun _ hs => cells_nth (hs.at (i := 2) rfl) ⟨rfl, ⟨rfl, trivial⟩⟩)) ?_
  refine RunL.grows rfl rfl rfl (Grows.call (vs := #[_]) rfl rfl Tryd.call8 (fun w hs => ref_Check_v bb B cb b 221 w (hdb.sym hs) vb)) (fun _ _ => ?_)
  refine RunL.still rfl rfl rfl (Still.assign rfl rfl) ?_
  refine RunL.nil ?_
  refine Ends.then ?_
  refine RunC.seq ?_
  refine RunC.region ?_
  refine RunL.still rfl rfl rfl (Still.move rfl rfl) ?_
  refine RunL.still rfl rfl rfl (Still.eql rfl rfl rfl) ?_
  refine RunL.again (t := 54) (u := .bool true) rfl (rfl) ?_
  refine RunL.still rfl rfl rfl (Still.move rfl rfl) ?_
  refine RunL.off rfl rfl rfl ?_
  refine RunL.off rfl rfl rfl ?_
  refine RunL.off rfl rfl rfl ?_
  refine RunL.off rfl rfl rfl ?_
  refine RunL.off rfl rfl rfl ?_
  refine RunL.off rfl rfl rfl ?_
  refine RunL.still rfl rfl rfl (Still.pickT rfl rfl rfl) ?_
  refine RunL.nil ?_
  refine Ends.then ?_
  refine RunC.cond_true rfl ?_
  refine RunC.region ?_
  refine RunL.still rfl rfl rfl (Still.move rfl rfl) ?_
  refine RunL.still rfl rfl rfl (Still.assign rfl rfl) ?_
  refine RunL.nil ?_
  refine Ends.then ?_
  refine RunC.seq ?_
  refine RunC.seq ?_
  refine RunC.region ?_
  refine RunL.still rfl rfl rfl (Still.move rfl rfl) ?_
  refine RunL.still rfl rfl rfl (Still.neq rfl rfl rfl) ?_
  refine RunL.again (t := 65) (u := .bool true) rfl (rfl) ?_
  refine RunL.nil ?_
  refine Ends.then ?_
  refine RunC.cond_true rfl ?_
  refine RunC.seq ?_
  refine RunC.region ?_
  refine RunL.grows rfl rfl rfl (Grows.call (vs := #[]) rfl rfl Tryd.call13 (fun w hs => lw_sane w)) (fun _ _ => ?_)
  refine RunL.again (t := 66) (u := .bool true) rfl (rfl) ?_
  refine RunL.still rfl rfl rfl (Still.move rfl rfl) ?_
  refine RunL.still rfl rfl rfl (Still.move rfl rfl) ?_
  refine RunL.still rfl rfl rfl (Still.move rfl rfl) ?_
  refine RunL.still rfl rfl rfl (Still.eql rfl rfl rfl) ?_
  refine RunL.again (t := 70) (u := .bool true) rfl (rfl) ?_
  refine RunL.still rfl rfl rfl (Still.pickT rfl rfl rfl) ?_
  refine RunL.still rfl rfl rfl (Still.move rfl rfl) ?_
  refine RunL.still rfl rfl rfl (Still.move rfl rfl) ?_
  refine RunL.still rfl rfl rfl (Still.move rfl rfl) ?_
  refine RunL.still rfl rfl rfl (Still.eql rfl rfl rfl) ?_
  refine RunL.again (t := 75) (u := .bool true) rfl (rfl) ?_
  refine RunL.still rfl rfl rfl (Still.pickT rfl rfl rfl) ?_
  refine RunL.still rfl rfl rfl (Still.move rfl rfl) ?_
  refine RunL.still rfl rfl rfl (Still.fieldAddrL (off := 0) (off' := 0) rfl rfl Tryd.underlying24 rfl Tryd.sizeOf22 rfl) ?_
  refine RunL.still rfl rfl rfl (Still.load rfl rfl Tryd.isAgg22 (fun _ hs => cell_nth (hs.at (i := 1) rfl) rfl)) ?_
  refine RunL.still rfl rfl rfl (Still.lenSlice rfl rfl Tryd.underlying22) ?_
  refine RunL.still rfl rfl rfl (Still.eql rfl rfl rfl) ?_
  refine RunL.again (t := 81) (u := .bool true) rfl (rfl) ?_
  refine RunL.still rfl rfl rfl (Still.pickT rfl rfl rfl) ?_
  refine RunL.still rfl rfl rfl (Still.move rfl rfl) ?_
  refine RunL.still rfl rfl rfl (Still.fieldAddrL (off := 0) (off' := 0) rfl rfl Tryd.underlying24 rfl Tryd.sizeOf22 rfl) ?_
  refine RunL.still rfl rfl rfl (Still.load rfl rfl Tryd.isAgg22 (fun _ hs => cell_nth (hs.at (i := 0) rfl) rfl)) ?_
  refine RunL.still rfl rfl rfl (Still.lenSlice rfl rfl Tryd.underlying22) ?_
  refine RunL.still rfl rfl rfl (Still.eql rfl rfl rfl) ?_
  refine RunL.again (t := 87) (u := .bool true) rfl (rfl) ?_
  refine RunL.still rfl rfl rfl (Still.pickT rfl rfl rfl) ?_
  refine RunL.still rfl rfl rfl (Still.assign rfl rfl) ?_
  refine RunL.nil ?_
  refine Ends.then ?_
  refine RunC.ret ?_
  refine Ends.then_ret ?_
  refine Ends.leave (.inl rfl) (fun _ _ ok => results1 Tryd.results6 (Holds.tmp rfl) ok) (fun w1 hs => ?_)
  exact Ret.intro () trivial rfl (HSub.nil _) hs

theorem lw_DiagSums_lim (ba : Option Addr) (A : Addr) (ca : Nat) (a : Dia) (bb : Option Addr) (B : Addr) (cb : Nat) (b : Dia) (i j : Int) (w : World) (hda : DiaAt w ba A a) (hdb : DiaAt w bb B b) (hl : ¬ (20 < a.cross.length ∧ a.cross.length ≤ 200)) (hm : ¬ (20 < b.cross.length ∧ b.cross.length ≤ 200)) (hca : checkI a = 0) (hcb : checkI b = 0) (hu : uniBad a b) : Gives Tryd.prog 6 #[diaV ba ca a, diaV bb cb b, iv i, iv j] w Nil (fun _ : Unit => True) (fun _ => .bool true) (fun _ => []) := by
  obtain ⟨sa, pla⟩ := checkI_ok.1 hca
  obtain ⟨sb, plb⟩ := checkI_ok.1 hcb
  have a200 := sa.1
  have al0 := sa.2.1
  have al1 := sa.2.2.1
  have b200 := sb.1
  have bl0 := sb.2.1
  have bl1 := sb.2.2.1
  have hka := compTo_le (nextN a) (2 * a.cross.length) (2 * a.cross.length)
  rw [← compCount] at hka
  have hkb := compTo_le (nextN b) (2 * b.cross.length) (2 * b.cross.length)
  rw [← compCount] at hkb
  refine fn_of_run (S := Nil) (args := [diaV ba ca a, diaV bb cb b, iv i, iv j]) (n := 205) (L := []) Tryd.func6 rfl Tryd.ntmps6 (Nat.le_of_ble_eq_true rfl) (Sym.nil _ _) ?_
  change RunC _ _ _ [(0, _), (1, _), (2, _), (3, _)] _
  refine RunC.seq ?_
  refine RunC.region ?_
  refine RunL.grows rfl rfl rfl (Grows.box rfl rfl) (fun b4 _ => ?_)
  refine RunL.grows rfl rfl rfl (Grows.box rfl rfl) (fun b5 _ => ?_)
  refine RunL.still rfl rfl rfl (Still.assign rfl rfl) ?_
  refine RunL.nil ?_
  refine Ends.then ?_
  refine RunC.seq ?_
  refine RunC.seq ?_
  refine RunC.region ?_
  refine RunL.still rfl rfl rfl (Still.loads rfl rfl Tryd.isAgg24 Tryd.sizeOf24 (vs := [_, _]) rfl (fun _ hs => cells_nth (hs.at (i := 1) rfl) ⟨rfl, ⟨rfl, trivial⟩⟩)) ?_
  refine RunL.grows rfl rfl rfl (Grows.call (vs := #[_]) rfl rfl Tryd.call7 (fun w hs => lw_large ba ca a w)) (fun _ _ => ?_)
  refine RunL.again (t := 30) (u := .bool false) rfl (congrArg Value.bool (decide_eq_false (hl))) ?_
  refine RunL.still rfl rfl rfl (Still.move rfl rfl) ?_
  refine RunL.still rfl rfl rfl (Still.loads rfl rfl Tryd.isAgg24 Tryd.sizeOf24 (vs := [_, _]) rfl (fun _ hs => cells_nth (hs.at (i := 0) rfl) ⟨rfl, ⟨rfl, trivial⟩⟩)) ?_
  refine RunL.grows rfl rfl rfl (Grows.call (vs := #[_]) rfl rfl Tryd.call7 (fun w hs => lw_large bb cb b w)) (fun _ _ => ?_)
  refine RunL.again (t := 33) (u := .bool false) rfl (congrArg Value.bool (decide_eq_false (hm))) ?_
  refine RunL.still rfl rfl rfl (Still.pickF rfl rfl rfl) ?_
  refine RunL.nil ?_
  refine Ends.then ?_
  refine RunC.cond_false rfl ?_
  refine RunC.skip ?_
  refine Ends.then ?_
  refine RunC.seq ?_
  refine RunC.region ?_
  refine RunL.still rfl rfl rfl (Still.loads rfl rfl Tryd.isAgg24 Tryd.sizeOf24 (vs := [_, _]) rfl (fun _ hs => cells_nth (hs.at (i := 1) rfl) ⟨rfl, ⟨rfl, trivial⟩⟩)) ?_
  refine RunL.still rfl rfl rfl (Still.loads rfl rfl Tryd.isAgg24 Tryd.sizeOf24 (vs := [_, _]) rfl (fun _ hs => cells_nth (hs.at (i := 0) rfl) ⟨rfl, ⟨rfl, trivial⟩⟩)) ?_
  refine RunL.grows rfl rfl rfl (Grows.call (vs := #[_, _]) rfl rfl Tryd.call29 (fun w hs => dg_Union_lim ba A ca a bb B cb b w (hda.sym hs) (hdb.sym hs) hca hcb hu)) (fun _ _ => ?_)
  refine RunL.still rfl rfl rfl (Still.move rfl rfl) ?_
  refine RunL.still rfl rfl rfl (Still.extractN rfl rfl rfl) ?_
  refine RunL.still rfl rfl rfl (Still.extractN rfl rfl rfl) ?_
  refine RunL.grows rfl rfl rfl (Grows.alloc rfl Tryd.zeroValue24) (fun b9 _ => ?_)
  refine RunL.does0 rfl rfl (Does.store rfl rfl rfl (i := 0) rfl Tryd.sizeOf24 rfl (rfl) rfl) (fun _ _ => ?_)
  refine RunL.still rfl rfl rfl (Still.assign rfl rfl) ?_
  refine RunL.nil ?_
  refine Ends.then ?_
  refine RunC.seq ?_
  refine RunC.region ?_
  refine RunL.still rfl rfl rfl (Still.loads rfl rfl Tryd.isAgg24 Tryd.sizeOf24 (vs := [_, _]) rfl (fun _ hs => cells_nth (hs.at (i := 2) rfl) ⟨rfl, ⟨rfl, trivial⟩⟩)) ?_
  refine RunL.still rfl rfl rfl (Still.move rfl rfl) ?_
  refine RunL.still rfl rfl rfl (Still.loads rfl rfl Tryd.isAgg24 Tryd.sizeOf24 (vs := [_, _]) rfl (fun _ hs => cells_nth (hs.at (i := 1) rfl) ⟨rfl, ⟨rfl, trivial⟩⟩)) ?_
  refine RunL.still rfl rfl rfl (Still.move rfl rfl) ?_
  refine RunL.grows rfl rfl rfl (Grows.call (vs := #[_, _, _, _]) rfl rfl Tryd.call30 (fun w hs => dg_Sum_lim ba A ca a i bb B cb b j w (hda.sym hs) (hdb.sym hs) hca hcb hu)) (fun _ _ => ?_)
  refine RunL.still rfl rfl rfl (Still.move rfl rfl) ?_
  refine RunL.still rfl rfl rfl (Still.extractN rfl rfl rfl) ?_
  refine RunL.still rfl rfl rfl (Still.extractN rfl rfl rfl) ?_
  refine RunL.grows rfl rfl rfl (Grows.alloc rfl Tryd.zeroValue24) (fun b11 _ => ?_)
  refine RunL.does0 rfl rfl (Does.store rfl rfl rfl (i := 0) rfl Tryd.sizeOf24 rfl (rfl) rfl) (fun _ _ => ?_)
  refine RunL.still rfl rfl rfl (Still.assign rfl rfl) ?_
  refine RunL.nil ?_
  refine Ends.then ?_
  refine RunC.seq ?_
  refine RunC.region ?_
  refine RunL.still rfl rfl rfl (Still.loads rfl rfl Tryd.isAgg24 Tryd.sizeOf24 (vs := [_, _]) rfl (fun _ hs => cells_nth (hs.at (i := 3) rfl) ⟨rfl, ⟨rfl, trivial⟩⟩)) ?_
  refine RunL.grows rfl rfl rfl (Grows.call (vs := #[_]) rfl rfl Tryd.call8 (fun w hs => ref_Check_v ba A ca a 0 w (hda.sym hs) hca)) (fun _ _ => ?_)
  refine RunL.still rfl rfl rfl (Still.assign rfl rfl) ?_
  refine RunL.nil ?_
  refine Ends.then ?_
  refine RunC.seq ?_
  refine RunC.seq ?_
  refine RunC.region ?_
  refine RunL.still rfl rfl rfl (Still.loads rfl rfl Tryd.isAgg24 Tryd.sizeOf24 (vs := [_, _]) rfl (fun _ hs => cells_nth (hs.at (i := 2) rfl) ⟨rfl, ⟨rfl, trivial⟩⟩)) ?_
  refine RunL.grows rfl rfl rfl (Grows.call (vs := #[_]) rfl rfl Tryd.call8 (fun w hs => ref_Check_v bb B cb b 0 w (hdb.sym hs) hcb)) (fun _ _ => ?_)
  refine RunL.still rfl rfl rfl (Still.assign rfl rfl) ?_
  refine RunL.nil ?_
  refine Ends.then ?_
  refine RunC.seq ?_
  refine RunC.region ?_
  refine RunL.still rfl rfl rfl (Still.move rfl rfl) ?_
  refine RunL.still rfl rfl rfl (Still.eql rfl rfl rfl) ?_
  refine RunL.again (t := 54) (u := .bool true) rfl (rfl) ?_
  refine RunL.still rfl rfl rfl (Still.move rfl rfl) ?_
  refine RunL.off rfl rfl rfl ?_
  refine RunL.off rfl rfl rfl ?_
  refine RunL.off rfl rfl rfl ?_
  refine RunL.off rfl rfl rfl ?_
  refine RunL.off rfl rfl rfl ?_
  refine RunL.off rfl rfl rfl ?_
  refine RunL.still rfl rfl rfl (Still.pickT rfl rfl rfl) ?_
  refine RunL.nil ?_
  refine Ends.then ?_
  refine RunC.cond_true rfl ?_
  refine RunC.region ?_
  refine RunL.still rfl rfl rfl (Still.move rfl rfl) ?_
  refine RunL.still rfl rfl rfl (Still.assign rfl rfl) ?_
  refine RunL.nil ?_
  refine Ends.then ?_
  refine RunC.seq ?_
  refine RunC.seq ?_
  refine RunC.region ?_
  refine RunL.still rfl rfl rfl (Still.move rfl rfl) ?_
  refine RunL.still rfl rfl rfl (Still.neq rfl rfl rfl) ?_
  refine RunL.again (t := 65) (u := .bool false) rfl (rfl) ?_
  refine RunL.nil ?_
  refine Ends.then ?_
  refine RunC.cond_false rfl ?_
  refine RunC.skip ?_
  refine Ends.then ?_
  refine RunC.seq ?_
  refine RunC.region ?_
  refine RunL.still rfl rfl rfl (Still.loads rfl rfl Tryd.isAgg24 Tryd.sizeOf24 (vs := [_, _]) rfl (fun _ hs => cells_nth (hs.at (i := 3) rfl) ⟨rfl, ⟨rfl, trivial⟩⟩)) ?_
  refine RunL.still rfl rfl rfl (Still.loads rfl rfl Tryd.isAgg24 Tryd.sizeOf24 (vs := [_, _]) rfl (fun _ hs => cells_nth (hs.at (i := 2) rfl) ⟨rfl, ⟨rfl, trivial⟩⟩)) ?_
  refine RunL.grows rfl rfl rfl (Grows.call (vs := #[_, _]) rfl rfl Tryd.call31 (fun w hs => ref_Union_lim ba A ca a bb B cb b w (hda.sym hs) (hdb.sym hs) sa sb hu)) (fun _ _ => ?_)
  refine RunL.still rfl rfl rfl (Still.move rfl rfl) ?_
  refine RunL.still rfl rfl rfl (Still.extractN rfl rfl rfl) ?_
  refine RunL.still rfl rfl rfl (Still.extractN rfl rfl rfl) ?_
  refine RunL.grows rfl rfl rfl (Grows.alloc rfl Tryd.zeroValue24) (fun b15 _ => ?_)
  refine RunL.does0 rfl rfl (Does.store rfl rfl rfl (i := 0) rfl Tryd.sizeOf24 rfl (rfl) rfl) (fun _ _ => ?_)
  refine RunL.still rfl rfl rfl (Still.assign rfl rfl) ?_
  refine RunL.nil ?_
  refine Ends.then ?_
  refine RunC.seq ?_
  refine RunC.region ?_
  refine RunL.still rfl rfl rfl (Still.loads rfl rfl Tryd.isAgg24 Tryd.sizeOf24 (vs := [_, _]) rfl (fun _ hs => cells_nth (hs.at (i := 4) rfl) ⟨rfl, ⟨rfl, trivial⟩⟩)) ?_
  refine RunL.still rfl rfl rfl (Still.move rfl rfl) ?_
  refine RunL.still rfl rfl rfl (Still.loads rfl rfl Tryd.isAgg24 Tryd.sizeOf24 (vs := [_, _]) rfl (fun _ hs => cells_nth (hs.at (i := 3) rfl) ⟨rfl, ⟨rfl, trivial⟩⟩)) ?_
  refine RunL.still rfl rfl rfl (Still.move rfl rfl) ?_
  refine RunL.grows rfl rfl rfl (Grows.call (vs := #[_, _, _, _]) rfl rfl Tryd.call32 (fun w hs => ref_Sum_lim ba A ca a i bb B cb b j w (hda.sym hs) (hdb.sym hs) sa sb hu)) (fun _ _ => ?_)
  refine RunL.still rfl rfl rfl (Still.move rfl rfl) ?_
  refine RunL.still rfl rfl rfl (Still.extractN rfl rfl rfl) ?_
  refine RunL.still rfl rfl rfl (Still.extractN rfl rfl rfl) ?_
  refine RunL.grows rfl rfl rfl (Grows.alloc rfl Tryd.zeroValue24) (fun b17 _ => ?_)
  refine RunL.does0 rfl rfl (Does.store rfl rfl rfl (i := 0) rfl Tryd.sizeOf24 rfl (rfl) rfl) (fun _ _ => ?_)
  refine RunL.still rfl rfl rfl (Still.assign rfl rfl) ?_
  refine RunL.nil ?_
  refine Ends.then ?_
  refine RunC.seq ?_
  refine RunC.seq ?_
  refine RunC.region ?_
  refine RunL.still rfl rfl rfl (Still.move rfl rfl) ?_
  refine RunL.still rfl rfl rfl (Still.move rfl rfl) ?_
  refine RunL.still rfl rfl rfl (Still.neq rfl rfl rfl) ?_
  refine RunL.again (t := 105) (u := .bool false) rfl (rfl) ?_
  refine RunL.still rfl rfl rfl (Still.move rfl rfl) ?_
  refine RunL.still rfl rfl rfl (Still.move rfl rfl) ?_
  refine RunL.still rfl rfl rfl (Still.move rfl rfl) ?_
  refine RunL.still rfl rfl rfl (Still.neq rfl rfl rfl) ?_
  refine RunL.again (t := 109) (u := .bool false) rfl (rfl) ?_
  refine RunL.still rfl rfl rfl (Still.pickF rfl rfl rfl) ?_
  refine RunL.still rfl rfl rfl (Still.move rfl rfl) ?_
  refine RunL.still rfl rfl rfl (Still.loads rfl rfl Tryd.isAgg24 Tryd.sizeOf24 (vs := [_, _]) rfl (fun _ hs => cells_nth (hs.at (i := 3) rfl) ⟨rfl, ⟨rfl, trivial⟩⟩)) ?_
  refine RunL.still rfl rfl rfl (Still.loads rfl rfl Tryd.isAgg24 Tryd.sizeOf24 (vs := [_, _]) rfl (fun _ hs => cells_nth (hs.at (i := 1) rfl) ⟨rfl, ⟨rfl, trivial⟩⟩)) ?_
  refine RunL.grows rfl rfl rfl (Grows.call (vs := #[_, _]) rfl rfl Tryd.call22 (fun w hs => same_none w)) (fun _ _ => ?_)
  refine RunL.again (t := 114) (u := .bool true) rfl (rfl) ?_
  refine RunL.still rfl rfl rfl (Still.not rfl rfl) ?_
  refine RunL.still rfl rfl rfl (Still.pickF rfl rfl rfl) ?_
  refine RunL.still rfl rfl rfl (Still.move rfl rfl) ?_
  refine RunL.still rfl rfl rfl (Still.loads rfl rfl Tryd.isAgg24 Tryd.sizeOf24 (vs := [_, _]) rfl (fun _ hs => cells_nth (hs.at (i := 2) rfl) ⟨rfl, ⟨rfl, trivial⟩⟩)) ?_
  refine RunL.still rfl rfl rfl (Still.loads rfl rfl Tryd.isAgg24 Tryd.sizeOf24 (vs := [_, _]) rfl (fun _ hs => cells_nth (hs.at (i := 0) rfl) ⟨rfl, ⟨rfl, trivial⟩⟩)) ?_
  refine RunL.grows rfl rfl rfl (Grows.call (vs := #[_, _]) rfl rfl Tryd.call22 (fun w hs => same_none w)) (fun _ _ => ?_)
  refine RunL.again (t := 120) (u := .bool true) rfl (rfl) ?_
  refine RunL.still rfl rfl rfl (Still.not rfl rfl) ?_
  refine RunL.still rfl rfl rfl (Still.pickF rfl rfl rfl) ?_
  refine RunL.nil ?_
  refine Ends.then ?_
  refine RunC.cond_false rfl ?_
  refine RunC.skip ?_
  refine Ends.then ?_
  refine RunC.seq ?_
  refine RunC.seq ?_
  refine RunC.region ?_
  refine RunL.still rfl rfl rfl (Still.move rfl rfl) ?_
  refine RunL.still rfl rfl rfl (Still.neq rfl rfl rfl) ?_
  refine RunL.again (t := 124) (u := .bool true) rfl (rfl) ?_
  refine RunL.nil ?_
  refine Ends.then ?_
  refine RunC.cond_true rfl ?_
  refine RunC.seq ?_
  refine RunC.region ?_
  refine RunL.grows rfl rfl rfl (Grows.call (vs := #[]) rfl rfl Tryd.call13 (fun w hs => lw_sane w)) (fun _ _ => ?_)
  refine RunL.again (t := 125) (u := .bool true) rfl (rfl) ?_
  refine RunL.still rfl rfl rfl (Still.assign rfl rfl) ?_
  refine RunL.nil ?_
  refine Ends.then ?_
  refine RunC.ret ?_
  refine Ends.then_ret ?_
  refine Ends.leave (.inl rfl) (fun _ _ ok => results1 Tryd.results6 (Holds.tmp rfl) ok) (fun w1 hs => ?_)
  exact Ret.intro () trivial rfl (HSub.nil _) hs

theorem lw_DiagSums_arg1 (ba : Option Addr) (A : Addr) (ca : Nat) (a : Dia) (bb : Option Addr) (B : Addr) (cb : Nat) (b : Dia) (i j : Int) (w : World) (hda : DiaAt w ba A a) (hdb : DiaAt w bb B b) (hl : ¬ (20 < a.cross.length ∧ a.cross.length ≤ 200)) (hm : ¬ (20 < b.cross.length ∧ b.cross.length ≤ 200)) (hca : checkI a = 0) (hcb : checkI b = 0) (hu : ¬ uniBad a b) (hi : ¬ thereP a i) : Gives Tryd.prog 6 #[diaV ba ca a, diaV bb cb b, iv i, iv j] w Nil (fun _ : Unit => True) (fun _ => .bool true) (fun _ => []) := by
  obtain ⟨sa, pla⟩ := checkI_ok.1 hca
  obtain ⟨sb, plb⟩ := checkI_ok.1 hcb
  have a200 := sa.1
  have al0 := sa.2.1
  have al1 := sa.2.2.1
  have b200 := sb.1
  have bl0 := sb.2.1
  have bl1 := sb.2.2.1
  have hka := compTo_le (nextN a) (2 * a.cross.length) (2 * a.cross.length)
  rw [← compCount] at hka
  have hkb := compTo_le (nextN b) (2 * b.cross.length) (2 * b.cross.length)
  rw [← compCount] at hkb
  have hB := Both.of sa sb hu
  have hU := uni_sound hB
  have hcU := checkI_of hU (uni_planar hB pla plb)
  have hul : (uniD a b).loops = a.loops + b.loops := rfl
  have hun := uniD_len a b
  have hcnt := uni_count hB
  have hwr := uni_writhe a b
  have wba := writhe_bound sa
  have wbb := writhe_bound sb
  refine fn_of_run (S := Nil) (args := [diaV ba ca a, diaV bb cb b, iv i, iv j]) (n := 205) (L := []) Tryd.func6 rfl Tryd.ntmps6 (Nat.le_of_ble_eq_true rfl) (Sym.nil _ _) ?_
  change RunC _ _ _ [(0, _), (1, _), (2, _), (3, _)] _
  refine RunC.seq ?_
  refine RunC.region ?_
  refine RunL.grows rfl rfl rfl (Grows.box rfl rfl) (fun b4 _ => ?_)
  refine RunL.grows rfl rfl rfl (Grows.box rfl rfl) (fun b5 _ => ?_)
  refine RunL.still rfl rfl rfl (Still.assign rfl rfl) ?_
  refine RunL.nil ?_
  refine Ends.then ?_
  refine RunC.seq ?_
  refine RunC.seq ?_
  refine RunC.region ?_
  refine RunL.still rfl rfl rfl (Still.loads rfl rfl Tryd.isAgg24 Tryd.sizeOf24 (vs := [_, _]) rfl (fun _ hs => cells_nth (hs.at (i := 1) rfl) ⟨rfl, ⟨rfl, trivial⟩⟩)) ?_
  refine RunL.grows rfl rfl rfl (Grows.call (vs := #[_]) rfl rfl Tryd.call7 (fun w hs => lw_large ba ca a w)) (fun _ _ => ?_)
  refine RunL.again (t := 30) (u := .bool false) rfl (congrArg Value.bool (decide_eq_false (hl))) ?_
  refine RunL.still rfl rfl rfl (Still.move rfl rfl) ?_
  refine RunL.still rfl rfl rfl (Still.loads rfl rfl Tryd.isAgg24 Tryd.sizeOf24 (vs := [_, _]) rfl (fun _ hs => cells_nth (hs.at (i := 0) rfl) ⟨rfl, ⟨rfl, trivial⟩⟩)) ?_
  refine RunL.grows rfl rfl rfl (Grows.call (vs := #[_]) rfl rfl Tryd.call7 (fun w hs => lw_large bb cb b w)) (fun _ _ => ?_)
  refine RunL.again (t := 33) (u := .bool false) rfl (congrArg Value.bool (decide_eq_false (hm))) ?_
  refine RunL.still rfl rfl rfl (Still.pickF rfl rfl rfl) ?_
  refine RunL.nil ?_
  refine Ends.then ?_
  refine RunC.cond_false rfl ?_
  refine RunC.skip ?_
  refine Ends.then ?_
  refine RunC.seq ?_
  refine RunC.region ?_
  refine RunL.still rfl rfl rfl (Still.loads rfl rfl Tryd.isAgg24 Tryd.sizeOf24 (vs := [_, _]) rfl (fun _ hs => cells_nth (hs.at (i := 1) rfl) ⟨rfl, ⟨rfl, trivial⟩⟩)) ?_
  refine RunL.still rfl rfl rfl (Still.loads rfl rfl Tryd.isAgg24 Tryd.sizeOf24 (vs := [_, _]) rfl (fun _ hs => cells_nth (hs.at (i := 0) rfl) ⟨rfl, ⟨rfl, trivial⟩⟩)) ?_
  refine RunL.grows rfl rfl rfl (Grows.call (vs := #[_, _]) rfl rfl Tryd.call29 (fun w hs => dg_Union_ok ba A ca a bb B cb b w (hda.sym hs) (hdb.sym hs) hca hcb hu)) (fun uq _ => ?_)
  refine RunL.still rfl rfl rfl (Still.move rfl rfl) ?_
  refine RunL.still rfl rfl rfl (Still.extractN rfl rfl rfl) ?_
  refine RunL.still rfl rfl rfl (Still.extractN rfl rfl rfl) ?_
  refine RunL.grows rfl rfl rfl (Grows.alloc rfl Tryd.zeroValue24) (fun b9 _ => ?_)
  refine RunL.does0 rfl rfl (Does.store rfl rfl rfl (i := 0) rfl Tryd.sizeOf24 rfl (rfl) rfl) (fun _ _ => ?_)
  refine RunL.still rfl rfl rfl (Still.assign rfl rfl) ?_
  refine RunL.nil ?_
  refine Ends.then ?_
  refine RunC.seq ?_
  refine RunC.region ?_
  refine RunL.still rfl rfl rfl (Still.loads rfl rfl Tryd.isAgg24 Tryd.sizeOf24 (vs := [_, _]) rfl (fun _ hs => cells_nth (hs.at (i := 3) rfl) ⟨rfl, ⟨rfl, trivial⟩⟩)) ?_
  refine RunL.still rfl rfl rfl (Still.move rfl rfl) ?_
  refine RunL.still rfl rfl rfl (Still.loads rfl rfl Tryd.isAgg24 Tryd.sizeOf24 (vs := [_, _]) rfl (fun _ hs => cells_nth (hs.at (i := 2) rfl) ⟨rfl, ⟨rfl, trivial⟩⟩)) ?_
  refine RunL.still rfl rfl rfl (Still.move rfl rfl) ?_
  refine RunL.grows rfl rfl rfl (Grows.call (vs := #[_, _, _, _]) rfl rfl Tryd.call30 (fun w hs => dg_Sum_arg1 ba A ca a i bb B cb b j w (hda.sym hs) (hdb.sym hs) hca hcb hu hi)) (fun _ _ => ?_)
  refine RunL.still rfl rfl rfl (Still.move rfl rfl) ?_
  refine RunL.still rfl rfl rfl (Still.extractN rfl rfl rfl) ?_
  refine RunL.still rfl rfl rfl (Still.extractN rfl rfl rfl) ?_
  refine RunL.grows rfl rfl rfl (Grows.alloc rfl Tryd.zeroValue24) (fun b11 _ => ?_)
  refine RunL.does0 rfl rfl (Does.store rfl rfl rfl (i := 0) rfl Tryd.sizeOf24 rfl (rfl) rfl) (fun _ _ => ?_)
  refine RunL.still rfl rfl rfl (Still.assign rfl rfl) ?_
  refine RunL.nil ?_
  refine Ends.then ?_
  refine RunC.seq ?_
  refine RunC.region ?_
  refine RunL.still rfl rfl rfl (Still.loads rfl rfl Tryd.isAgg24 Tryd.sizeOf24 (vs := [_, _]) rfl (fun _ hs => cells_nth (hs.at (i := 4) rfl) ⟨rfl, ⟨rfl, trivial⟩⟩)) ?_
  refine RunL.grows rfl rfl rfl (Grows.call (vs := #[_]) rfl rfl Tryd.call8 (fun w hs => ref_Check_v ba A ca a 0 w (hda.sym hs) hca)) (fun _ _ => ?_)
  refine RunL.still rfl rfl rfl (Still.assign rfl rfl) ?_
  refine RunL.nil ?_
  refine Ends.then ?_
  refine RunC.seq ?_
  refine RunC.seq ?_
  refine RunC.region ?_
  refine RunL.still rfl rfl rfl (Still.loads rfl rfl Tryd.isAgg24 Tryd.sizeOf24 (vs := [_, _]) rfl (fun _ hs => cells_nth (hs.at (i := 3) rfl) ⟨rfl, ⟨rfl, trivial⟩⟩)) ?_
  refine RunL.grows rfl rfl rfl (Grows.call (vs := #[_]) rfl rfl Tryd.call8 (fun w hs => ref_Check_v bb B cb b 0 w (hdb.sym hs) hcb)) (fun _ _ => ?_)
  refine RunL.still rfl rfl rfl (Still.assign rfl rfl) ?_
  refine RunL.nil ?_
  refine Ends.then ?_
  refine RunC.seq ?_
  refine RunC.region ?_
  refine RunL.still rfl rfl rfl (Still.move rfl rfl) ?_
  refine RunL.still rfl rfl rfl (Still.eql rfl rfl rfl) ?_
  refine RunL.again (t := 54) (u := .bool true) rfl (rfl) ?_
  refine RunL.still rfl rfl rfl (Still.move rfl rfl) ?_
  refine RunL.off rfl rfl rfl ?_
  refine RunL.off rfl rfl rfl ?_
  refine RunL.off rfl rfl rfl ?_
  refine RunL.off rfl rfl rfl ?_
  refine RunL.off rfl rfl rfl ?_
  refine RunL.off rfl rfl rfl ?_
  refine RunL.still rfl rfl rfl (Still.pickT rfl rfl rfl) ?_
  refine RunL.nil ?_
  refine Ends.then ?_
  refine RunC.cond_true rfl ?_
  refine RunC.region ?_
  refine RunL.still rfl rfl rfl (Still.move rfl rfl) ?_
  refine RunL.still rfl rfl rfl (Still.assign rfl rfl) ?_
  refine RunL.nil ?_
  refine Ends.then ?_
  refine RunC.seq ?_
  refine RunC.seq ?_
  refine RunC.region ?_
  refine RunL.still rfl rfl rfl (Still.move rfl rfl) ?_
  refine RunL.still rfl rfl rfl (Still.neq rfl rfl rfl) ?_
  refine RunL.again (t := 65) (u := .bool false) rfl (rfl) ?_
  refine RunL.nil ?_
  refine Ends.then ?_
  refine RunC.cond_false rfl ?_
  refine RunC.skip ?_
  refine Ends.then ?_
  refine RunC.seq ?_
  refine RunC.region ?_
  refine RunL.still rfl rfl rfl (Still.loads rfl rfl Tryd.isAgg24 Tryd.sizeOf24 (vs := [_, _]) rfl (fun _ hs => cells_nth (hs.at (i := 4) rfl) ⟨rfl, ⟨rfl, trivial⟩⟩)) ?_
  refine RunL.still rfl rfl rfl (Still.loads rfl rfl Tryd.isAgg24 Tryd.sizeOf24 (vs := [_, _]) rfl (fun _ hs => cells_nth (hs.at (i := 3) rfl) ⟨rfl, ⟨rfl, trivial⟩⟩)) ?_
  refine RunL.grows rfl rfl rfl (Grows.call (vs := #[_, _]) rfl rfl Tryd.call31 (fun w hs => ref_Union ba A ca a bb B cb b w (hda.sym hs) (hdb.sym hs) sa sb hu)) (fun uq2 _ => ?_)
  refine RunL.still rfl rfl rfl (Still.move rfl rfl) ?_
  refine RunL.still rfl rfl rfl (Still.extractN rfl rfl rfl) ?_
  refine RunL.still rfl rfl rfl (Still.extractN rfl rfl rfl) ?_
  refine RunL.grows rfl rfl rfl (Grows.alloc rfl Tryd.zeroValue24) (fun b15 _ => ?_)
  refine RunL.does0 rfl rfl (Does.store rfl rfl rfl (i := 0) rfl Tryd.sizeOf24 rfl (rfl) rfl) (fun _ _ => ?_)
  refine RunL.still rfl rfl rfl (Still.assign rfl rfl) ?_
  refine RunL.nil ?_
  refine Ends.then ?_
  refine RunC.seq ?_
  refine RunC.region ?_
  refine RunL.still rfl rfl rfl (Still.loads rfl rfl Tryd.isAgg24 Tryd.sizeOf24 (vs := [_, _]) rfl (fun _ hs => cells_nth (hs.at (i := 6) rfl) ⟨rfl, ⟨rfl, trivial⟩⟩)) ?_
  refine RunL.still rfl rfl rfl (Still.move rfl rfl) ?_
  refine RunL.still rfl rfl rfl (Still.loads rfl rfl Tryd.isAgg24 Tryd.sizeOf24 (vs := [_, _]) rfl (fun _ hs => cells_nth (hs.at (i := 5) rfl) ⟨rfl, ⟨rfl, trivial⟩⟩)) ?_
  refine RunL.still rfl rfl rfl (Still.move rfl rfl) ?_
  refine RunL.grows rfl rfl rfl (Grows.call (vs := #[_, _, _, _]) rfl rfl Tryd.call32 (fun w hs => ref_Sum_arg1 ba A ca a i bb B cb b j w (hda.sym hs) (hdb.sym hs) sa sb hu hi)) (fun _ _ => ?_)
  refine RunL.still rfl rfl rfl (Still.move rfl rfl) ?_
  refine RunL.still rfl rfl rfl (Still.extractN rfl rfl rfl) ?_
  refine RunL.still rfl rfl rfl (Still.extractN rfl rfl rfl) ?_
  refine RunL.grows rfl rfl rfl (Grows.alloc rfl Tryd.zeroValue24) (fun b17 _ => ?_)
  refine RunL.does0 rfl rfl (Does.store rfl rfl rfl (i := 0) rfl Tryd.sizeOf24 rfl (rfl) rfl) (fun _ _ => ?_)
  refine RunL.still rfl rfl rfl (Still.assign rfl rfl) ?_
  refine RunL.nil ?_
  refine Ends.then ?_
  refine RunC.seq ?_
  refine RunC.seq ?_
  refine RunC.region ?_
  refine RunL.still rfl rfl rfl (Still.move rfl rfl) ?_
  refine RunL.still rfl rfl rfl (Still.move rfl rfl) ?_
  refine RunL.still rfl rfl rfl (Still.neq rfl rfl rfl) ?_
  refine RunL.again (t := 105) (u := .bool false) rfl (rfl) ?_
  refine RunL.still rfl rfl rfl (Still.move rfl rfl) ?_
  refine RunL.still rfl rfl rfl (Still.move rfl rfl) ?_
  refine RunL.still rfl rfl rfl (Still.move rfl rfl) ?_
  refine RunL.still rfl rfl rfl (Still.neq rfl rfl rfl) ?_
  refine RunL.again (t := 109) (u := .bool false) rfl (rfl) ?_
  refine RunL.still rfl rfl rfl (Still.pickF rfl rfl rfl) ?_
  refine RunL.still rfl rfl rfl (Still.move rfl rfl) ?_
  refine RunL.still rfl rfl rfl (Still.loads rfl rfl Tryd.isAgg24 Tryd.sizeOf24 (vs := [_, _]) rfl (fun _ hs => cells_nth (hs.at (i := 4) rfl) ⟨rfl, ⟨rfl, trivial⟩⟩)) ?_
  refine RunL.still rfl rfl rfl (Still.loads rfl rfl Tryd.isAgg24 Tryd.sizeOf24 (vs := [_, _]) rfl (fun _ hs => cells_nth (hs.at (i := 1) rfl) ⟨rfl, ⟨rfl, trivial⟩⟩)) ?_
  refine RunL.grows rfl rfl rfl (Grows.call (vs := #[_, _]) rfl rfl Tryd.call22 (fun w hs => ref_Same_eq uq.1 uq2.1 _ _ uq.2 uq2.2 (uniD a b) (uniD a b) w (DiaAt.of_ownD hU (hs.at (i := 5) rfl)) (DiaAt.of_ownD hU (hs.at (i := 2) rfl)) rfl)) (fun _ _ => ?_)
  refine RunL.again (t := 114) (u := .bool true) rfl (rfl) ?_
  refine RunL.still rfl rfl rfl (Still.not rfl rfl) ?_
  refine RunL.still rfl rfl rfl (Still.pickF rfl rfl rfl) ?_
  refine RunL.still rfl rfl rfl (Still.move rfl rfl) ?_
  refine RunL.still rfl rfl rfl (Still.loads rfl rfl Tryd.isAgg24 Tryd.sizeOf24 (vs := [_, _]) rfl (fun _ hs => cells_nth (hs.at (i := 3) rfl) ⟨rfl, ⟨rfl, trivial⟩⟩)) ?_
  refine RunL.still rfl rfl rfl (Still.loads rfl rfl Tryd.isAgg24 Tryd.sizeOf24 (vs := [_, _]) rfl (fun _ hs => cells_nth (hs.at (i := 0) rfl) ⟨rfl, ⟨rfl, trivial⟩⟩)) ?_
  refine RunL.grows rfl rfl rfl (Grows.call (vs := #[_, _]) rfl rfl Tryd.call22 (fun w hs => same_none w)) (fun _ _ => ?_)
  refine RunL.again (t := 120) (u := .bool true) rfl (rfl) ?_
  refine RunL.still rfl rfl rfl (Still.not rfl rfl) ?_
  refine RunL.still rfl rfl rfl (Still.pickF rfl rfl rfl) ?_
  refine RunL.nil ?_
  refine Ends.then ?_
  refine RunC.cond_false rfl ?_
  refine RunC.skip ?_
  refine Ends.then ?_
  refine RunC.seq ?_
  refine RunC.seq ?_
  refine RunC.region ?_
  refine RunL.still rfl rfl rfl (Still.move rfl rfl) ?_
  refine RunL.still rfl rfl rfl (Still.neq rfl rfl rfl) ?_
  refine RunL.again (t := 124) (u := .bool false) rfl (rfl) ?_
  refine RunL.nil ?_
  refine Ends.then ?_
  refine RunC.cond_false rfl ?_
  refine RunC.skip ?_
  refine Ends.then ?_
  refine RunC.seq ?_
  refine RunC.region ?_
  refine RunL.still rfl rfl rfl (Still.loads rfl rfl Tryd.isAgg24 Tryd.sizeOf24 (vs := [_, _]) rfl (fun _ hs => cells_nth (hs.at (i := 4) rfl) ⟨rfl, ⟨rfl, trivial⟩⟩)) ?_
  refine RunL.grows rfl rfl rfl (Grows.call (vs := #[_]) rfl rfl Tryd.call9 (fun w hs => dg_Components_ok uq.1 _ uq.2 (uniD a b) w (DiaAt.of_ownD hU (hs.at (i := 5) rfl)) hcU)) (fun ov hov => ?_)
  refine RunL.still rfl rfl rfl (Still.move rfl rfl) ?_
  refine RunL.still rfl rfl rfl (Still.extractN rfl rfl rfl) ?_
  refine RunL.still rfl rfl rfl (Still.extractN rfl rfl rfl) ?_
  refine RunL.still rfl rfl rfl (Still.extractN rfl rfl rfl) ?_
  refine RunL.still rfl rfl rfl (Still.assign rfl rfl) ?_
  refine RunL.still rfl rfl rfl (Still.assign rfl rfl) ?_
  refine RunL.still rfl rfl rfl (Still.assign rfl rfl) ?_
  refine RunL.nil ?_
  refine Ends.then ?_
  refine RunC.seq ?_
  refine RunC.region ?_
  refine RunL.still rfl rfl rfl (Still.loads rfl rfl Tryd.isAgg24 Tryd.sizeOf24 (vs := [_, _]) rfl (fun _ hs => cells_nth (hs.at (i := 5) rfl) ⟨rfl, ⟨rfl, trivial⟩⟩)) ?_
  refine RunL.grows rfl rfl rfl (Grows.call (vs := #[_]) rfl rfl Tryd.call11 (fun w hs => dg_Writhe_ok uq.1 _ uq.2 (uniD a b) w (DiaAt.of_ownD hU (hs.at (i := 6) rfl)) hcU)) (fun _ _ => ?_)
  refine RunL.still rfl rfl rfl (Still.move rfl rfl) ?_
  refine RunL.still rfl rfl rfl (Still.extractN rfl rfl rfl) ?_
  refine RunL.still rfl rfl rfl (Still.extractN rfl rfl rfl) ?_
  refine RunL.still rfl rfl rfl (Still.assign rfl rfl) ?_
  refine RunL.still rfl rfl rfl (Still.assign rfl rfl) ?_
  refine RunL.nil ?_
  refine Ends.then ?_
  refine RunC.seq ?_
  refine RunC.seq ?_
  refine RunC.draw 28 (.still 0 (.one 1 (.still 2 (.still 3 (.still 4 (.still 5 (.still 6 (.still 7 (.still 8 (.still 9 (.still 10 (.still 11 (.still 12 (.still 13 (.still 15 (.one 14 (.one 16 (.still 17 (.still 18 (.still 19 (.still 20 (.still 21 (.still 22 (.still 24 (.one 23 (.one 25 (.still 26 (.still 27 .done)))))))))))))))))))))))))))) (by kernel_rfl) (by kernel_rfl) ?_
  refine RunG.still rfl rfl rfl rfl (Still.loads rfl rfl Tryd.isAgg24 Tryd.sizeOf24 (vs := [_, _]) rfl (fun _ hs => cells_nth (hs.at (i := 5) rfl) ⟨rfl, ⟨rfl, trivial⟩⟩)) ?_
  refine RunG.grows rfl rfl rfl rfl (Grows.call (vs := #[_]) rfl rfl Tryd.call8 (fun w hs => ref_Check_v uq.1 _ uq.2 (uniD a b) 0 w (DiaAt.of_ownD hU (hs.at (i := 6) rfl)) hcU)) (fun _ _ => ?_)
  refine RunG.still rfl rfl rfl rfl (Still.neq rfl rfl rfl) ?_
  refine RunG.again (t := 139) (u := .bool false) rfl (rfl) ?_
  refine RunG.still rfl rfl rfl rfl (Still.move rfl rfl) ?_
  refine RunG.still rfl rfl rfl rfl (Still.move rfl rfl) ?_
  refine RunG.still rfl rfl rfl rfl (Still.neq rfl rfl rfl) ?_
  refine RunG.again (t := 142) (u := .bool false) rfl (rfl) ?_
  refine RunG.still rfl rfl rfl rfl (Still.pickF rfl rfl rfl) ?_
  refine RunG.still rfl rfl rfl rfl (Still.move rfl rfl) ?_
  refine RunG.still rfl rfl rfl rfl (Still.move rfl rfl) ?_
  refine RunG.still rfl rfl rfl rfl (Still.neq rfl rfl rfl) ?_
  refine RunG.again (t := 146) (u := .bool false) rfl (rfl) ?_
  refine RunG.still rfl rfl rfl rfl (Still.pickF rfl rfl rfl) ?_
  refine RunG.still rfl rfl rfl rfl (Still.move rfl rfl) ?_
  refine RunG.still rfl rfl rfl rfl (Still.move rfl rfl) ?_
  refine RunG.still rfl rfl rfl rfl (Still.loads rfl rfl Tryd.isAgg24 Tryd.sizeOf24 (vs := [_, _]) rfl (fun _ hs => cells_nth (hs.at (i := 8) rfl) ⟨rfl, ⟨rfl, trivial⟩⟩)) ?_
  refine RunG.still rfl rfl rfl rfl (Still.loads rfl rfl Tryd.isAgg24 Tryd.sizeOf24 (vs := [_, _]) rfl (fun _ hs => cells_nth (hs.at (i := 7) rfl) ⟨rfl, ⟨rfl, trivial⟩⟩)) ?_
  refine RunG.grows rfl rfl rfl rfl (Grows.call (vs := #[_]) rfl rfl Tryd.call17 (fun w hs => ref_Count' ba A ca a w (hda.sym hs) sa)) (fun _ _ => ?_)
  refine RunG.grows rfl rfl rfl rfl (Grows.call (vs := #[_]) rfl rfl Tryd.call17 (fun w hs => ref_Count' bb B cb b w (hdb.sym hs) sb)) (fun _ _ => ?_)
  refine RunG.still rfl rfl rfl rfl (Still.add rfl rfl rfl (fits64 (by omega) (by omega))) ?_
  refine RunG.still rfl rfl rfl rfl (Still.neq rfl rfl rfl) ?_
  refine RunG.again (t := 155) (u := .bool false) rfl (congrArg Value.bool (decide_eq_false (fun h => h (by omega)))) ?_
  refine RunG.still rfl rfl rfl rfl (Still.pickF rfl rfl rfl) ?_
  refine RunG.still rfl rfl rfl rfl (Still.move rfl rfl) ?_
  refine RunG.still rfl rfl rfl rfl (Still.move rfl rfl) ?_
  refine RunG.still rfl rfl rfl rfl (Still.loads rfl rfl Tryd.isAgg24 Tryd.sizeOf24 (vs := [_, _]) rfl (fun _ hs => cells_nth (hs.at (i := 8) rfl) ⟨rfl, ⟨rfl, trivial⟩⟩)) ?_
  refine RunG.still rfl rfl rfl rfl (Still.loads rfl rfl Tryd.isAgg24 Tryd.sizeOf24 (vs := [_, _]) rfl (fun _ hs => cells_nth (hs.at (i := 7) rfl) ⟨rfl, ⟨rfl, trivial⟩⟩)) ?_
  refine RunG.grows rfl rfl rfl rfl (Grows.call (vs := #[_]) rfl rfl Tryd.call18 (fun w hs => ref_Writhe' ba A ca a w (hda.sym hs) sa)) (fun _ _ => ?_)
  refine RunG.grows rfl rfl rfl rfl (Grows.call (vs := #[_]) rfl rfl Tryd.call18 (fun w hs => ref_Writhe' bb B cb b w (hdb.sym hs) sb)) (fun _ _ => ?_)
  refine RunG.still rfl rfl rfl rfl (Still.add rfl rfl rfl (fits64 (by omega) (by omega))) ?_
  refine RunG.still rfl rfl rfl rfl (Still.neq rfl rfl rfl) ?_
  refine RunG.again (t := 164) (u := .bool false) rfl (congrArg Value.bool (decide_eq_false (fun h => h (by omega)))) ?_
  refine RunG.done ?_
  show RunL _ _ _ [_] _ _
  refine RunL.still rfl rfl rfl (Still.pickF rfl rfl rfl) ?_
  refine RunL.nil ?_
  refine Ends.then ?_
  refine RunC.cond_false rfl ?_
  refine RunC.skip ?_
  refine Ends.then ?_
  refine RunC.seq ?_
  refine RunC.seq ?_
  refine RunC.region ?_
  refine RunL.still rfl rfl rfl (Still.move rfl rfl) ?_
  refine RunL.still rfl rfl rfl (Still.neq rfl rfl rfl) ?_
  refine RunL.again (t := 167) (u := .bool true) rfl (rfl) ?_
  refine RunL.nil ?_
  refine Ends.then ?_
  refine RunC.cond_true rfl ?_
  refine RunC.seq ?_
  refine RunC.region ?_
  refine RunL.grows rfl rfl rfl (Grows.call (vs := #[]) rfl rfl Tryd.call13 (fun w hs => lw_sane w)) (fun _ _ => ?_)
  refine RunL.again (t := 168) (u := .bool true) rfl (rfl) ?_
  refine RunL.still rfl rfl rfl (Still.assign rfl rfl) ?_
  refine RunL.nil ?_
  refine Ends.then ?_
  refine RunC.ret ?_
  refine Ends.then_ret ?_
  refine Ends.leave (.inl rfl) (fun _ _ ok => results1 Tryd.results6 (Holds.tmp rfl) ok) (fun w1 hs => ?_)
  exact Ret.intro () trivial rfl (HSub.nil _) hs

theorem lw_DiagSums_arg2 (ba : Option Addr) (A : Addr) (ca : Nat) (a : Dia) (bb : Option Addr) (B : Addr) (cb : Nat) (b : Dia) (i j : Int) (w : World) (hda : DiaAt w ba A a) (hdb : DiaAt w bb B b) (hl : ¬ (20 < a.cross.length ∧ a.cross.length ≤ 200)) (hm : ¬ (20 < b.cross.length ∧ b.cross.length ≤ 200)) (hca : checkI a = 0) (hcb : checkI b = 0) (hu : ¬ uniBad a b) (hi : thereP a i) (hj : ¬ thereP b j) : Gives Tryd.prog 6 #[diaV ba ca a, diaV bb cb b, iv i, iv j] w Nil (fun _ : Unit => True) (fun _ => .bool true) (fun _ => []) := by
  obtain ⟨sa, pla⟩ := checkI_ok.1 hca
  obtain ⟨sb, plb⟩ := checkI_ok.1 hcb
  have a200 := sa.1
  have al0 := sa.2.1
  have al1 := sa.2.2.1
  have b200 := sb.1
  have bl0 := sb.2.1
  have bl1 := sb.2.2.1
  have hka := compTo_le (nextN a) (2 * a.cross.length) (2 * a.cross.length)
  rw [← compCount] at hka
  have hkb := compTo_le (nextN b) (2 * b.cross.length) (2 * b.cross.length)
  rw [← compCount] at hkb
  have hB := Both.of sa sb hu
  have hU := uni_sound hB
  have hcU := checkI_of hU (uni_planar hB pla plb)
  have hul : (uniD a b).loops = a.loops + b.loops := rfl
  have hun := uniD_len a b
  have hcnt := uni_count hB
  have hwr := uni_writhe a b
  have wba := writhe_bound sa
  have wbb := writhe_bound sb
  refine fn_of_run (S := Nil) (args := [diaV ba ca a, diaV bb cb b, iv i, iv j]) (n := 205) (L := []) Tryd.func6 rfl Tryd.ntmps6 (Nat.le_of_ble_eq_true rfl) (Sym.nil _ _) ?_
  change RunC _ _ _ [(0, _), (1, _), (2, _), (3, _)] _
  refine RunC.seq ?_
  refine RunC.region ?_
  refine RunL.grows rfl rfl rfl (Grows.box rfl rfl) (fun b4 _ => ?_)
  refine RunL.grows rfl rfl rfl (Grows.box rfl rfl) (fun b5 _ => ?_)
  refine RunL.still rfl rfl rfl (Still.assign rfl rfl) ?_
  refine RunL.nil ?_
  refine Ends.then ?_
  refine RunC.seq ?_
  refine RunC.seq ?_
  refine RunC.region ?_
  refine RunL.still rfl rfl rfl (Still.loads rfl rfl Tryd.isAgg24 Tryd.sizeOf24 (vs := [_, _]) rfl (fun _ hs => cells_nth (hs.at (i := 1) rfl) ⟨rfl, ⟨rfl, trivial⟩⟩)) ?_
  refine RunL.grows rfl rfl rfl (Grows.call (vs := #[_]) rfl rfl Tryd.call7 (fun w hs => lw_large ba ca a w)) (fun _ _ => ?_)
  refine RunL.again (t := 30) (u := .bool false) rfl (congrArg Value.bool (decide_eq_false (hl))) ?_
  refine RunL.still rfl rfl rfl (Still.move rfl rfl) ?_
  refine RunL.still rfl rfl rfl (Still.loads rfl rfl Tryd.isAgg24 Tryd.sizeOf24 (vs := [_, _]) rfl (fun _ hs => cells_nth (hs.at (i := 0) rfl) ⟨rfl, ⟨rfl, trivial⟩⟩)) ?_
  refine RunL.grows rfl rfl rfl (Grows.call (vs := #[_]) rfl rfl Tryd.call7 (fun w hs => lw_large bb cb b w)) (fun _ _ => ?_)
  refine RunL.again (t := 33) (u := .bool false) rfl (congrArg Value.bool (decide_eq_false (hm))) ?_
  refine RunL.still rfl rfl rfl (Still.pickF rfl rfl rfl) ?_
  refine RunL.nil ?_
  refine Ends.then ?_
  refine RunC.cond_false rfl ?_
  refine RunC.skip ?_
  refine Ends.then ?_
  refine RunC.seq ?_
  refine RunC.region ?_
  refine RunL.still rfl rfl rfl (Still.loads rfl rfl Tryd.isAgg24 Tryd.sizeOf24 (vs := [_, _]) rfl (fun _ hs => cells_nth (hs.at (i := 1) rfl) ⟨rfl, ⟨rfl, trivial⟩⟩)) ?_
  refine RunL.still rfl rfl rfl (Still.loads rfl rfl Tryd.isAgg24 Tryd.sizeOf24 (vs := [_, _]) rfl (fun _ hs => cells_nth (hs.at (i := 0) rfl) ⟨rfl, ⟨rfl, trivial⟩⟩)) ?_
  refine RunL.grows rfl rfl rfl (Grows.call (vs := #[_, _]) rfl rfl Tryd.call29 (fun w hs => dg_Union_ok ba A ca a bb B cb b w (hda.sym hs) (hdb.sym hs) hca hcb hu)) (fun uq _ => ?_)
  refine RunL.still rfl rfl rfl (Still.move rfl rfl) ?_
  refine RunL.still rfl rfl rfl (Still.extractN rfl rfl rfl) ?_
  refine RunL.still rfl rfl rfl (Still.extractN rfl rfl rfl) ?_
  refine RunL.grows rfl rfl rfl (Grows.alloc rfl Tryd.zeroValue24) (fun b9 _ => ?_)
  refine RunL.does0 rfl rfl (Does.store rfl rfl rfl (i := 0) rfl Tryd.sizeOf24 rfl (rfl) rfl) (fun _ _ => ?_)
  refine RunL.still rfl rfl rfl (Still.assign rfl rfl) ?_
  refine RunL.nil ?_
  refine Ends.then ?_
  refine RunC.seq ?_
  refine RunC.region ?_
  refine RunL.still rfl rfl rfl (Still.loads rfl rfl Tryd.isAgg24 Tryd.sizeOf24 (vs := [_, _]) rfl (fun _ hs => cells_nth (hs.at (i := 3) rfl) ⟨rfl, ⟨rfl, trivial⟩⟩)) ?_
  refine RunL.still rfl rfl rfl (Still.move rfl rfl) ?_
  refine RunL.still rfl rfl rfl (Still.loads rfl rfl Tryd.isAgg24 Tryd.sizeOf24 (vs := [_, _]) rfl (fun _ hs => cells_nth (hs.at (i := 2) rfl) ⟨rfl, ⟨rfl, trivial⟩⟩)) ?_
  refine RunL.still rfl rfl rfl (Still.move rfl rfl) ?_
  refine RunL.grows rfl rfl rfl (Grows.call (vs := #[_, _, _, _]) rfl rfl Tryd.call30 (fun w hs => dg_Sum_arg2 ba A ca a i bb B cb b j w (hda.sym hs) (hdb.sym hs) hca hcb hu hi hj)) (fun _ _ => ?_)
  refine RunL.still rfl rfl rfl (Still.move rfl rfl) ?_
  refine RunL.still rfl rfl rfl (Still.extractN rfl rfl rfl) ?_
  refine RunL.still rfl rfl rfl (Still.extractN rfl rfl rfl) ?_
  refine RunL.grows rfl rfl rfl (Grows.alloc rfl Tryd.zeroValue24) (fun b11 _ => ?_)
  refine RunL.does0 rfl rfl (Does.store rfl rfl rfl (i := 0) rfl Tryd.sizeOf24 rfl (rfl) rfl) (fun _ _ => ?_)
  refine RunL.still rfl rfl rfl (Still.assign rfl rfl) ?_
  refine RunL.nil ?_
  refine Ends.then ?_
  refine RunC.seq ?_
  refine RunC.region ?_
  refine RunL.still rfl rfl rfl (Still.loads rfl rfl Tryd.isAgg24 Tryd.sizeOf24 (vs := [_, _]) rfl (fun _ hs => cells_nth (hs.at (i := 4) rfl) ⟨rfl, ⟨rfl, trivial⟩⟩)) ?_
  refine RunL.grows rfl rfl rfl (Grows.call (vs := #[_]) rfl rfl Tryd.call8 (fun w hs => ref_Check_v ba A ca a 0 w (hda.sym hs) hca)) (fun _ _ => ?_)
  refine RunL.still rfl rfl rfl (Still.assign rfl rfl) ?_
  refine RunL.nil ?_
  refine Ends.then ?_
  refine RunC.seq ?_
  refine RunC.seq ?_
  refine RunC.region ?_
  refine RunL.still rfl rfl rfl (Still.loads rfl rfl Tryd.isAgg24 Tryd.sizeOf24 (vs := [_, _]) rfl (fun _ hs => cells_nth (hs.at (i := 3) rfl) ⟨rfl, ⟨rfl, trivial⟩⟩)) ?_
  refine RunL.grows rfl rfl rfl (Grows.call (vs := #[_]) rfl rfl Tryd.call8 (fun w hs => ref_Check_v bb B cb b 0 w (hdb.sym hs) hcb)) (fun _ _ => ?_)
  refine RunL.still rfl rfl rfl (Still.assign rfl rfl) ?_
  refine RunL.nil ?_
  refine Ends.then ?_
  refine RunC.seq ?_
  refine RunC.region ?_
  refine RunL.still rfl rfl rfl (Still.move rfl rfl) ?_
  refine RunL.still rfl rfl rfl (Still.eql rfl rfl rfl) ?_
  refine RunL.again (t := 54) (u := .bool true) rfl (rfl) ?_
  refine RunL.still rfl rfl rfl (Still.move rfl rfl) ?_
  refine RunL.off rfl rfl rfl ?_
  refine RunL.off rfl rfl rfl ?_
  refine RunL.off rfl rfl rfl ?_
  refine RunL.off rfl rfl rfl ?_
  refine RunL.off rfl rfl rfl ?_
  refine RunL.off rfl rfl rfl ?_
  refine RunL.still rfl rfl rfl (Still.pickT rfl rfl rfl) ?_
  refine RunL.nil ?_
  refine Ends.then ?_
  refine RunC.cond_true rfl ?_
  refine RunC.region ?_
  refine RunL.still rfl rfl rfl (Still.move rfl rfl) ?_
  refine RunL.still rfl rfl rfl (Still.assign rfl rfl) ?_
  refine RunL.nil ?_
  refine Ends.then ?_
  refine RunC.seq ?_
  refine RunC.seq ?_
  refine RunC.region ?_
  refine RunL.still rfl rfl rfl (Still.move rfl rfl) ?_
  refine RunL.still rfl rfl rfl (Still.neq rfl rfl rfl) ?_
  refine RunL.again (t := 65) (u := .bool false) rfl (rfl) ?_
  refine RunL.nil ?_
  refine Ends.then ?_
  refine RunC.cond_false rfl ?_
  refine RunC.skip ?_
  refine Ends.then ?_
  refine RunC.seq ?_
  refine RunC.region ?_
  refine RunL.still rfl rfl rfl (Still.loads rfl rfl Tryd.isAgg24 Tryd.sizeOf24 (vs := [_, _]) rfl (fun _ hs => cells_nth (hs.at (i := 4) rfl) ⟨rfl, ⟨rfl, trivial⟩⟩)) ?_
  refine RunL.still rfl rfl rfl (Still.loads rfl rfl Tryd.isAgg24 Tryd.sizeOf24 (vs := [_, _]) rfl (fun _ hs => cells_nth (hs.at (i := 3) rfl) ⟨rfl, ⟨rfl, trivial⟩⟩)) ?_
  refine RunL.grows rfl rfl rfl (Grows.call (vs := #[_, _]) rfl rfl Tryd.call31 (fun w hs => ref_Union ba A ca a bb B cb b w (hda.sym hs) (hdb.sym hs) sa sb hu)) (fun uq2 _ => ?_)
  refine RunL.still rfl rfl rfl (Still.move rfl rfl) ?_
  refine RunL.still rfl rfl rfl (Still.extractN rfl rfl rfl) ?_
  refine RunL.still rfl rfl rfl (Still.extractN rfl rfl rfl) ?_
  refine RunL.grows rfl rfl rfl (Grows.alloc rfl Tryd.zeroValue24) (fun b15 _ => ?_)
  refine RunL.does0 rfl rfl (Does.store rfl rfl rfl (i := 0) rfl Tryd.sizeOf24 rfl (rfl) rfl) (fun _ _ => ?_)
  refine RunL.still rfl rfl rfl (Still.assign rfl rfl) ?_
  refine RunL.nil ?_
  refine Ends.then ?_
  refine RunC.seq ?_
  refine RunC.region ?_
  refine RunL.still rfl rfl rfl (Still.loads rfl rfl Tryd.isAgg24 Tryd.sizeOf24 (vs := [_, _]) rfl (fun _ hs => cells_nth (hs.at (i := 6) rfl) ⟨rfl, ⟨rfl, trivial⟩⟩)) ?_
  refine RunL.still rfl rfl rfl (Still.move rfl rfl) ?_
  refine RunL.still rfl rfl rfl (Still.loads rfl rfl Tryd.isAgg24 Tryd.sizeOf24 (vs := [_, _]) rfl (fun _ hs => cells_nth (hs.at (i := 5) rfl) ⟨rfl, ⟨rfl, trivial⟩⟩)) ?_
  refine RunL.still rfl rfl rfl (Still.move rfl rfl) ?_
  refine RunL.grows rfl rfl rfl (Grows.call (vs := #[_, _, _, _]) rfl rfl Tryd.call32 (fun w hs => ref_Sum_arg2 ba A ca a i bb B cb b j w (hda.sym hs) (hdb.sym hs) sa sb hu hi hj)) (fun _ _ => ?_)
  refine RunL.still rfl rfl rfl (Still.move rfl rfl) ?_
  refine RunL.still rfl rfl rfl (Still.extractN rfl rfl rfl) ?_
  refine RunL.still rfl rfl rfl (Still.extractN rfl rfl rfl) ?_
  refine RunL.grows rfl rfl rfl (Grows.alloc rfl Tryd.zeroValue24) (fun b17 _ => ?_)
  refine RunL.does0 rfl rfl (Does.store rfl rfl rfl (i := 0) rfl Tryd.sizeOf24 rfl (rfl) rfl) (fun _ _ => ?_)
  refine RunL.still rfl rfl rfl (Still.assign rfl rfl) ?_
  refine RunL.nil ?_
  refine Ends.then ?_
  refine RunC.seq ?_
  refine RunC.seq ?_
  refine RunC.region ?_
  refine RunL.still rfl rfl rfl (Still.move rfl rfl) ?_
  refine RunL.still rfl rfl rfl (Still.move rfl rfl) ?_
  refine RunL.still rfl rfl rfl (Still.neq rfl rfl rfl) ?_
  refine RunL.again (t := 105) (u := .bool false) rfl (rfl) ?_
  refine RunL.still rfl rfl rfl (Still.move rfl rfl) ?_
  refine RunL.still rfl rfl rfl (Still.move rfl rfl) ?_
  refine RunL.still rfl rfl rfl (Still.move rfl rfl) ?_
  refine RunL.still rfl rfl rfl (Still.neq rfl rfl rfl) ?_
  refine RunL.again (t := 109) (u := .bool false) rfl (rfl) ?_
  refine RunL.still rfl rfl rfl (Still.pickF rfl rfl rfl) ?_
  refine RunL.still rfl rfl rfl (Still.move rfl rfl) ?_
  refine RunL.still rfl rfl rfl (Still.loads rfl rfl Tryd.isAgg24 Tryd.sizeOf24 (vs := [_, _]) rfl (fun _ hs => cells_nth (hs.at (i := 4) rfl) ⟨rfl, ⟨rfl, trivial⟩⟩)) ?_
  refine RunL.still rfl rfl rfl (Still.loads rfl rfl Tryd.isAgg24 Tryd.sizeOf24 (vs := [_, _]) rfl (fun _ hs => cells_nth (hs.at (i := 1) rfl) ⟨rfl, ⟨rfl, trivial⟩⟩)) ?_
  refine RunL.grows rfl rfl rfl (Grows.call (vs := #[_, _]) rfl rfl Tryd.call22 (fun w hs => ref_Same_eq uq.1 uq2.1 _ _ uq.2 uq2.2 (uniD a b) (uniD a b) w (DiaAt.of_ownD hU (hs.at (i := 5) rfl)) (DiaAt.of_ownD hU (hs.at (i := 2) rfl)) rfl)) (fun _ _ => ?_)
  refine RunL.again (t := 114) (u := .bool true) rfl (rfl) ?_
  refine RunL.still rfl rfl rfl (Still.not rfl rfl) ?_
  refine RunL.still rfl rfl rfl (Still.pickF rfl rfl rfl) ?_
  refine RunL.still rfl rfl rfl (Still.move rfl rfl) ?_
  refine RunL.still rfl rfl rfl (Still.loads rfl rfl Tryd.isAgg24 Tryd.sizeOf24 (vs := [_, _]) rfl (fun _ hs => cells_nth (hs.at (i := 3) rfl) ⟨rfl, ⟨rfl, trivial⟩⟩)) ?_
  refine RunL.still rfl rfl rfl (Still.loads rfl rfl Tryd.isAgg24 Tryd.sizeOf24 (vs := [_, _]) rfl (fun _ hs => cells_nth (hs.at (i := 0) rfl) ⟨rfl, ⟨rfl, trivial⟩⟩)) ?_
  refine RunL.grows rfl rfl rfl (Grows.call (vs := #[_, _]) rfl rfl Tryd.call22 (fun w hs => same_none w)) (fun _ _ => ?_)
  refine RunL.again (t := 120) (u := .bool true) rfl (rfl) ?_
  refine RunL.still rfl rfl rfl (Still.not rfl rfl) ?_
  refine RunL.still rfl rfl rfl (Still.pickF rfl rfl rfl) ?_
  refine RunL.nil ?_
  refine Ends.then ?_
  refine RunC.cond_false rfl ?_
  refine RunC.skip ?_
  refine Ends.then ?_
  refine RunC.seq ?_
  refine RunC.seq ?_
  refine RunC.region ?_
  refine RunL.still rfl rfl rfl (Still.move rfl rfl) ?_
  refine RunL.still rfl rfl rfl (Still.neq rfl rfl rfl) ?_
  refine RunL.again (t := 124) (u := .bool false) rfl (rfl) ?_
  refine RunL.nil ?_
  refine Ends.then ?_
  refine RunC.cond_false rfl ?_
  refine RunC.skip ?_
  refine Ends.then ?_
  refine RunC.seq ?_
  refine RunC.region ?_
  refine RunL.still rfl rfl rfl (Still.loads rfl rfl Tryd.isAgg24 Tryd.sizeOf24 (vs := [_, _]) rfl (fun _ hs => cells_nth (hs.at (i := 4) rfl) ⟨rfl, ⟨rfl, trivial⟩⟩)) ?_
  refine RunL.grows rfl rfl rfl (Grows.call (vs := #[_]) rfl rfl Tryd.call9 (fun w hs => dg_Components_ok uq.1 _ uq.2 (uniD a b) w (DiaAt.of_ownD hU (hs.at (i := 5) rfl)) hcU)) (fun ov hov => ?_)
  refine RunL.still rfl rfl rfl (Still.move rfl rfl) ?_
  refine RunL.still rfl rfl rfl (Still.extractN rfl rfl rfl) ?_
  refine RunL.still rfl rfl rfl (Still.extractN rfl rfl rfl) ?_
  refine RunL.still rfl rfl rfl (Still.extractN rfl rfl rfl) ?_
  refine RunL.still rfl rfl rfl (Still.assign rfl rfl) ?_
  refine RunL.still rfl rfl rfl (Still.assign rfl rfl) ?_
  refine RunL.still rfl rfl rfl (Still.assign rfl rfl) ?_
  refine RunL.nil ?_
  refine Ends.then ?_
  refine RunC.seq ?_
  refine RunC.region ?_
  refine RunL.still rfl rfl rfl (Still.loads rfl rfl Tryd.isAgg24 Tryd.sizeOf24 (vs := [_, _]) rfl (fun _ hs => cells_nth (hs.at (i := 5) rfl) ⟨rfl, ⟨rfl, trivial⟩⟩)) ?_
  refine RunL.grows rfl rfl rfl (Grows.call (vs := #[_]) rfl rfl Tryd.call11 (fun w hs => dg_Writhe_ok uq.1 _ uq.2 (uniD a b) w (DiaAt.of_ownD hU (hs.at (i := 6) rfl)) hcU)) (fun _ _ => ?_)
  refine RunL.still rfl rfl rfl (Still.move rfl rfl) ?_
  refine RunL.still rfl rfl rfl (Still.extractN rfl rfl rfl) ?_
  refine RunL.still rfl rfl rfl (Still.extractN rfl rfl rfl) ?_
  refine RunL.still rfl rfl rfl (Still.assign rfl rfl) ?_
  refine RunL.still rfl rfl rfl (Still.assign rfl rfl) ?_
  refine RunL.nil ?_
  refine Ends.then ?_
  refine RunC.seq ?_
  refine RunC.seq ?_
  refine RunC.draw 28 (.still 0 (.one 1 (.still 2 (.still 3 (.still 4 (.still 5 (.still 6 (.still 7 (.still 8 (.still 9 (.still 10 (.still 11 (.still 12 (.still 13 (.still 15 (.one 14 (.one 16 (.still 17 (.still 18 (.still 19 (.still 20 (.still 21 (.still 22 (.still 24 (.one 23 (.one 25 (.still 26 (.still 27 .done)))))))))))))))))))))))))))) (by kernel_rfl) (by kernel_rfl) ?_
  refine RunG.still rfl rfl rfl rfl (Still.loads rfl rfl Tryd.isAgg24 Tryd.sizeOf24 (vs := [_, _]) rfl (fun _ hs => cells_nth (hs.at (i := 5) rfl) ⟨rfl, ⟨rfl, trivial⟩⟩)) ?_
  refine RunG.grows rfl rfl rfl rfl (Grows.call (vs := #[_]) rfl rfl Tryd.call8 (fun w hs => ref_Check_v uq.1 _ uq.2 (uniD a b) 0 w (DiaAt.of_ownD hU (hs.at (i := 6) rfl)) hcU)) (fun _ _ => ?_)
  refine RunG.still rfl rfl rfl rfl (Still.neq rfl rfl rfl) ?_
  refine RunG.again (t := 139) (u := .bool false) rfl (rfl) ?_
  refine RunG.still rfl rfl rfl rfl (Still.move rfl rfl) ?_
  refine RunG.still rfl rfl rfl rfl (Still.move rfl rfl) ?_
  refine RunG.still rfl rfl rfl rfl (Still.neq rfl rfl rfl) ?_
  refine RunG.again (t := 142) (u := .bool false) rfl (rfl) ?_
  refine RunG.still rfl rfl rfl rfl (Still.pickF rfl rfl rfl) ?_
  refine RunG.still rfl rfl rfl rfl (Still.move rfl rfl) ?_
  refine RunG.still rfl rfl rfl rfl (Still.move rfl rfl) ?_
  refine RunG.still rfl rfl rfl rfl (Still.neq rfl rfl rfl) ?_
  refine RunG.again (t := 146) (u := .bool false) rfl (rfl) ?_
  refine RunG.still rfl rfl rfl rfl (Still.pickF rfl rfl rfl) ?_
  refine RunG.still rfl rfl rfl rfl (Still.move rfl rfl) ?_
  refine RunG.still rfl rfl rfl rfl (Still.move rfl rfl) ?_
  refine RunG.still rfl rfl rfl rfl (Still.loads rfl rfl Tryd.isAgg24 Tryd.sizeOf24 (vs := [_, _]) rfl (fun _ hs => cells_nth (hs.at (i := 8) rfl) ⟨rfl, ⟨rfl, trivial⟩⟩)) ?_
  refine RunG.still rfl rfl rfl rfl (Still.loads rfl rfl Tryd.isAgg24 Tryd.sizeOf24 (vs := [_, _]) rfl (fun _ hs => cells_nth (hs.at (i := 7) rfl) ⟨rfl, ⟨rfl, trivial⟩⟩)) ?_
  refine RunG.grows rfl rfl rfl rfl (Grows.call (vs := #[_]) rfl rfl Tryd.call17 (fun w hs => ref_Count' ba A ca a w (hda.sym hs) sa)) (fun _ _ => ?_)
  refine RunG.grows rfl rfl rfl rfl (Grows.call (vs := #[_]) rfl rfl Tryd.call17 (fun w hs => ref_Count' bb B cb b w (hdb.sym hs) sb)) (fun _ _ => ?_)
  refine RunG.still rfl rfl rfl rfl (Still.add rfl rfl rfl (fits64 (by omega) (by omega))) ?_
  refine RunG.still rfl rfl rfl rfl (Still.neq rfl rfl rfl) ?_
  refine RunG.again (t := 155) (u := .bool false) rfl (congrArg Value.bool (decide_eq_false (fun h => h (by omega)))) ?_
  refine RunG.still rfl rfl rfl rfl (Still.pickF rfl rfl rfl) ?_
  refine RunG.still rfl rfl rfl rfl (Still.move rfl rfl) ?_
  refine RunG.still rfl rfl rfl rfl (Still.move rfl rfl) ?_
  refine RunG.still rfl rfl rfl rfl (Still.loads rfl rfl Tryd.isAgg24 Tryd.sizeOf24 (vs := [_, _]) rfl (fun _ hs => cells_nth (hs.at (i := 8) rfl) ⟨rfl, ⟨rfl, trivial⟩⟩)) ?_
  refine RunG.still rfl rfl rfl rfl (Still.loads rfl rfl Tryd.isAgg24 Tryd.sizeOf24 (vs := [_, _]) rfl (fun _ hs => cells_nth (hs.at (i := 7) rfl) ⟨rfl, ⟨rfl, trivial⟩⟩)) ?_
  refine RunG.grows rfl rfl rfl rfl (Grows.call (vs := #[_]) rfl rfl Tryd.call18 (fun w hs => ref_Writhe' ba A ca a w (hda.sym hs) sa)) (fun _ _ => ?_)
  refine RunG.grows rfl rfl rfl rfl (Grows.call (vs := #[_]) rfl rfl Tryd.call18 (fun w hs => ref_Writhe' bb B cb b w (hdb.sym hs) sb)) (fun _ _ => ?_)
  refine RunG.still rfl rfl rfl rfl (Still.add rfl rfl rfl (fits64 (by omega) (by omega))) ?_
  refine RunG.still rfl rfl rfl rfl (Still.neq rfl rfl rfl) ?_
  refine RunG.again (t := 164) (u := .bool false) rfl (congrArg Value.bool (decide_eq_false (fun h => h (by omega)))) ?_
  refine RunG.done ?_
  show RunL _ _ _ [_] _ _
  refine RunL.still rfl rfl rfl (Still.pickF rfl rfl rfl) ?_
  refine RunL.nil ?_
  refine Ends.then ?_
  refine RunC.cond_false rfl ?_
  refine RunC.skip ?_
  refine Ends.then ?_
  refine RunC.seq ?_
  refine RunC.seq ?_
  refine RunC.region ?_
  refine RunL.still rfl rfl rfl (Still.move rfl rfl) ?_
  refine RunL.still rfl rfl rfl (Still.neq rfl rfl rfl) ?_
  refine RunL.again (t := 167) (u := .bool true) rfl (rfl) ?_
  refine RunL.nil ?_
  refine Ends.then ?_
  refine RunC.cond_true rfl ?_
  refine RunC.seq ?_
  refine RunC.region ?_
  refine RunL.grows rfl rfl rfl (Grows.call (vs := #[]) rfl rfl Tryd.call13 (fun w hs => lw_sane w)) (fun _ _ => ?_)
  refine RunL.again (t := 168) (u := .bool true) rfl (rfl) ?_
  refine RunL.still rfl rfl rfl (Still.assign rfl rfl) ?_
  refine RunL.nil ?_
  refine Ends.then ?_
  refine RunC.ret ?_
  refine Ends.then_ret ?_
  refine Ends.leave (.inl rfl) (fun _ _ ok => results1 Tryd.results6 (Holds.tmp rfl) ok) (fun w1 hs => ?_)
  exact Ret.intro () trivial rfl (HSub.nil _) hs

theorem lw_DiagSums_neg (ba : Option Addr) (A : Addr) (ca : Nat) (a : Dia) (bb : Option Addr) (B : Addr) (cb : Nat) (b : Dia) (i j : Int) (w : World) (hda : DiaAt w ba A a) (hdb : DiaAt w bb B b) (hl : ¬ (20 < a.cross.length ∧ a.cross.length ≤ 200)) (hm : ¬ (20 < b.cross.length ∧ b.cross.length ≤ 200)) (hca : checkI a = 0) (hcb : checkI b = 0) (hu : ¬ uniBad a b) (hi : thereP a i) (hj : thereP b j) (hn : i < 0 ∨ j < 0) : Gives Tryd.prog 6 #[diaV ba ca a, diaV bb cb b, iv i, iv j] w Nil (fun _ : Unit => True) (fun _ => .bool true) (fun _ => []) := by
  obtain ⟨sa, pla⟩ := checkI_ok.1 hca
  obtain ⟨sb, plb⟩ := checkI_ok.1 hcb
  have a200 := sa.1
  have al0 := sa.2.1
  have al1 := sa.2.2.1
  have b200 := sb.1
  have bl0 := sb.2.1
  have bl1 := sb.2.2.1
  have hka := compTo_le (nextN a) (2 * a.cross.length) (2 * a.cross.length)
  rw [← compCount] at hka
  have hkb := compTo_le (nextN b) (2 * b.cross.length) (2 * b.cross.length)
  rw [← compCount] at hkb
  have hB := Both.of sa sb hu
  have hU := uni_sound hB
  have hcU := checkI_of hU (uni_planar hB pla plb)
  have hul : (uniD a b).loops = a.loops + b.loops := rfl
  have hun := uniD_len a b
  have hcnt := uni_count hB
  have hwr := uni_writhe a b
  have wba := writhe_bound sa
  have wbb := writhe_bound sb
  have hlp : 1 ≤ (uniD a b).loops := by rcases hn with h | h; (rcases hi with k | k; omega; omega); (rcases hj with k | k; omega; omega)
  have hD : SoundP (withL (uniD a b) ((uniD a b).loops - 1)) := withL_sound hU (by omega) (by have := hU.2.2.1; omega)
  have hcD := checkI_of hD (withL_planar hU hD (uni_planar hB pla plb))
  have hDl : (withL (uniD a b) ((uniD a b).loops - 1)).loops = (uniD a b).loops - 1 := rfl
  have hDc : compCount (withL (uniD a b) ((uniD a b).loops - 1)) = compCount (uniD a b) := rfl
  have hDw : writhe (withL (uniD a b) ((uniD a b).loops - 1)) = writhe (uniD a b) := rfl
  refine fn_of_run (S := Nil) (args := [diaV ba ca a, diaV bb cb b, iv i, iv j]) (n := 205) (L := []) Tryd.func6 rfl Tryd.ntmps6 (Nat.le_of_ble_eq_true rfl) (Sym.nil _ _) ?_
  change RunC _ _ _ [(0, _), (1, _), (2, _), (3, _)] _
  refine RunC.seq ?_
  refine RunC.region ?_
  refine RunL.grows rfl rfl rfl (Grows.box rfl rfl) (fun b4 _ => ?_)
  refine RunL.grows rfl rfl rfl (Grows.box rfl rfl) (fun b5 _ => ?_)
  refine RunL.still rfl rfl rfl (Still.assign rfl rfl) ?_
  refine RunL.nil ?_
  refine Ends.then ?_
  refine RunC.seq ?_
  refine RunC.seq ?_
  refine RunC.region ?_
  refine RunL.still rfl rfl rfl (Still.loads rfl rfl Tryd.isAgg24 Tryd.sizeOf24 (vs := [_, _]) rfl (fun _ hs => cells_nth (hs.at (i := 1) rfl) ⟨rfl, ⟨rfl, trivial⟩⟩)) ?_
  refine RunL.grows rfl rfl rfl (Grows.call (vs := #[_]) rfl rfl Tryd.call7 (fun w hs => lw_large ba ca a w)) (fun _ _ => ?_)
  refine RunL.again (t := 30) (u := .bool false) rfl (congrArg Value.bool (decide_eq_false (hl))) ?_
  refine RunL.still rfl rfl rfl (Still.move rfl rfl) ?_
  refine RunL.still rfl rfl rfl (Still.loads rfl rfl Tryd.isAgg24 Tryd.sizeOf24 (vs := [_, _]) rfl (fun _ hs => cells_nth (hs.at (i := 0) rfl) ⟨rfl, ⟨rfl, trivial⟩⟩)) ?_
  refine RunL.grows rfl rfl rfl (Grows.call (vs := #[_]) rfl rfl Tryd.call7 (fun w hs => lw_large bb cb b w)) (fun _ _ => ?_)
  refine RunL.again (t := 33) (u := .bool false) rfl (congrArg Value.bool (decide_eq_false (hm))) ?_
  refine RunL.still rfl rfl rfl (Still.pickF rfl rfl rfl) ?_
  refine RunL.nil ?_
  refine Ends.then ?_
  refine RunC.cond_false rfl ?_
  refine RunC.skip ?_
  refine Ends.then ?_
  refine RunC.seq ?_
  refine RunC.region ?_
  refine RunL.still rfl rfl rfl (Still.loads rfl rfl Tryd.isAgg24 Tryd.sizeOf24 (vs := [_, _]) rfl (fun _ hs => cells_nth (hs.at (i := 1) rfl) ⟨rfl, ⟨rfl, trivial⟩⟩)) ?_
  refine RunL.still rfl rfl rfl (Still.loads rfl rfl Tryd.isAgg24 Tryd.sizeOf24 (vs := [_, _]) rfl (fun _ hs => cells_nth (hs.at (i := 0) rfl) ⟨rfl, ⟨rfl, trivial⟩⟩)) ?_
  refine RunL.grows rfl rfl rfl (Grows.call (vs := #[_, _]) rfl rfl Tryd.call29 (fun w hs => dg_Union_ok ba A ca a bb B cb b w (hda.sym hs) (hdb.sym hs) hca hcb hu)) (fun uq _ => ?_)
  refine RunL.still rfl rfl rfl (Still.move rfl rfl) ?_
  refine RunL.still rfl rfl rfl (Still.extractN rfl rfl rfl) ?_
  refine RunL.still rfl rfl rfl (Still.extractN rfl rfl rfl) ?_
  refine RunL.grows rfl rfl rfl (Grows.alloc rfl Tryd.zeroValue24) (fun b9 _ => ?_)
  refine RunL.does0 rfl rfl (Does.store rfl rfl rfl (i := 0) rfl Tryd.sizeOf24 rfl (rfl) rfl) (fun _ _ => ?_)
  refine RunL.still rfl rfl rfl (Still.assign rfl rfl) ?_
  refine RunL.nil ?_
  refine Ends.then ?_
  refine RunC.seq ?_
  refine RunC.region ?_
  refine RunL.still rfl rfl rfl (Still.loads rfl rfl Tryd.isAgg24 Tryd.sizeOf24 (vs := [_, _]) rfl (fun _ hs => cells_nth (hs.at (i := 3) rfl) ⟨rfl, ⟨rfl, trivial⟩⟩)) ?_
  refine RunL.still rfl rfl rfl (Still.move rfl rfl) ?_
  refine RunL.still rfl rfl rfl (Still.loads rfl rfl Tryd.isAgg24 Tryd.sizeOf24 (vs := [_, _]) rfl (fun _ hs => cells_nth (hs.at (i := 2) rfl) ⟨rfl, ⟨rfl, trivial⟩⟩)) ?_
  refine RunL.still rfl rfl rfl (Still.move rfl rfl) ?_
  refine RunL.grows rfl rfl rfl (Grows.call (vs := #[_, _, _, _]) rfl rfl Tryd.call30 (fun w hs => dg_Sum_neg ba A ca a i bb B cb b j w (hda.sym hs) (hdb.sym hs) hca hcb hu hi hj hn)) (fun sq _ => ?_)
  refine RunL.still rfl rfl rfl (Still.move rfl rfl) ?_
  refine RunL.still rfl rfl rfl (Still.extractN rfl rfl rfl) ?_
  refine RunL.still rfl rfl rfl (Still.extractN rfl rfl rfl) ?_
  refine RunL.grows rfl rfl rfl (Grows.alloc rfl Tryd.zeroValue24) (fun b11 _ => ?_)
  refine RunL.does0 rfl rfl (Does.store rfl rfl rfl (i := 0) rfl Tryd.sizeOf24 rfl (rfl) rfl) (fun _ _ => ?_)
  refine RunL.still rfl rfl rfl (Still.assign rfl rfl) ?_
  refine RunL.nil ?_
  refine Ends.then ?_
  refine RunC.seq ?_
  refine RunC.region ?_
  refine RunL.still rfl rfl rfl (Still.loads rfl rfl Tryd.isAgg24 Tryd.sizeOf24 (vs := [_, _]) rfl (fun _ hs => cells_nth (hs.at (i := 5) rfl) ⟨rfl, ⟨rfl, trivial⟩⟩)) ?_
  refine RunL.grows rfl rfl rfl (Grows.call (vs := #[_]) rfl rfl Tryd.call8 (fun w hs => ref_Check_v ba A ca a 0 w (hda.sym hs) hca)) (fun _ _ => ?_)
  refine RunL.still rfl rfl rfl (Still.assign rfl rfl) ?_
  refine RunL.nil ?_
  refine Ends.then ?_
  refine RunC.seq ?_
  refine RunC.seq ?_
  refine RunC.region ?_
  refine RunL.still rfl rfl rfl (Still.loads rfl rfl Tryd.isAgg24 Tryd.sizeOf24 (vs := [_, _]) rfl (fun _ hs => cells_nth (hs.at (i := 4) rfl) ⟨rfl, ⟨rfl, trivial⟩⟩)) ?_
  refine RunL.grows rfl rfl rfl (Grows.call (vs := #[_]) rfl rfl Tryd.call8 (fun w hs => ref_Check_v bb B cb b 0 w (hdb.sym hs) hcb)) (fun _ _ => ?_)
  refine RunL.still rfl rfl rfl (Still.assign rfl rfl) ?_
  refine RunL.nil ?_
  refine Ends.then ?_
  refine RunC.seq ?_
  refine RunC.region ?_
  refine RunL.still rfl rfl rfl (Still.move rfl rfl) ?_
  refine RunL.still rfl rfl rfl (Still.eql rfl rfl rfl) ?_
  refine RunL.again (t := 54) (u := .bool true) rfl (rfl) ?_
  refine RunL.still rfl rfl rfl (Still.move rfl rfl) ?_
  refine RunL.off rfl rfl rfl ?_
  refine RunL.off rfl rfl rfl ?_
  refine RunL.off rfl rfl rfl ?_
  refine RunL.off rfl rfl rfl ?_
  refine RunL.off rfl rfl rfl ?_
  refine RunL.off rfl rfl rfl ?_
  refine RunL.still rfl rfl rfl (Still.pickT rfl rfl rfl) ?_
  refine RunL.nil ?_
  refine Ends.then ?_
  refine RunC.cond_true rfl ?_
  refine RunC.region ?_
  refine RunL.still rfl rfl rfl (Still.move rfl rfl) ?_
  refine RunL.still rfl rfl rfl (Still.assign rfl rfl) ?_
  refine RunL.nil ?_
  refine Ends.then ?_
  refine RunC.seq ?_
  refine RunC.seq ?_
  refine RunC.region ?_
  refine RunL.still rfl rfl rfl (Still.move rfl rfl) ?_
  refine RunL.still rfl rfl rfl (Still.neq rfl rfl rfl) ?_
  refine RunL.again (t := 65) (u := .bool false) rfl (rfl) ?_
  refine RunL.nil ?_
  refine Ends.then ?_
  refine RunC.cond_false rfl ?_
  refine RunC.skip ?_
  refine Ends.then ?_
  refine RunC.seq ?_
  refine RunC.region ?_
  refine RunL.still rfl rfl rfl (Still.loads rfl rfl Tryd.isAgg24 Tryd.sizeOf24 (vs := [_, _]) rfl (fun _ hs => cells_nth (hs.at (i := 5) rfl) ⟨rfl, ⟨rfl, trivial⟩⟩)) ?_
  refine RunL.still rfl rfl rfl (Still.loads rfl rfl Tryd.isAgg24 Tryd.sizeOf24 (vs := [_, _]) rfl (fun _ hs => cells_nth (hs.at (i := 4) rfl) ⟨rfl, ⟨rfl, trivial⟩⟩)) ?_
  refine RunL.grows rfl rfl rfl (Grows.call (vs := #[_, _]) rfl rfl Tryd.call31 (fun w hs => ref_Union ba A ca a bb B cb b w (hda.sym hs) (hdb.sym hs) sa sb hu)) (fun uq2 _ => ?_)
  refine RunL.still rfl rfl rfl (Still.move rfl rfl) ?_
  refine RunL.still rfl rfl rfl (Still.extractN rfl rfl rfl) ?_
  refine RunL.still rfl rfl rfl (Still.extractN rfl rfl rfl) ?_
  refine RunL.grows rfl rfl rfl (Grows.alloc rfl Tryd.zeroValue24) (fun b15 _ => ?_)
  refine RunL.does0 rfl rfl (Does.store rfl rfl rfl (i := 0) rfl Tryd.sizeOf24 rfl (rfl) rfl) (fun _ _ => ?_)
  refine RunL.still rfl rfl rfl (Still.assign rfl rfl) ?_
  refine RunL.nil ?_
  refine Ends.then ?_
  refine RunC.seq ?_
  refine RunC.region ?_
  refine RunL.still rfl rfl rfl (Still.loads rfl rfl Tryd.isAgg24 Tryd.sizeOf24 (vs := [_, _]) rfl (fun _ hs => cells_nth (hs.at (i := 7) rfl) ⟨rfl, ⟨rfl, trivial⟩⟩)) ?_
  refine RunL.still rfl rfl rfl (Still.move rfl rfl) ?_
  refine RunL.still rfl rfl rfl (Still.loads rfl rfl Tryd.isAgg24 Tryd.sizeOf24 (vs := [_, _]) rfl (fun _ hs => cells_nth (hs.at (i := 6) rfl) ⟨rfl, ⟨rfl, trivial⟩⟩)) ?_
  refine RunL.still rfl rfl rfl (Still.move rfl rfl) ?_
  refine RunL.grows rfl rfl rfl (Grows.call (vs := #[_, _, _, _]) rfl rfl Tryd.call32 (fun w hs => ref_Sum_neg ba A ca a i bb B cb b j w (hda.sym hs) (hdb.sym hs) sa sb hu hi hj hn)) (fun sq2 _ => ?_)
  refine RunL.still rfl rfl rfl (Still.move rfl rfl) ?_
  refine RunL.still rfl rfl rfl (Still.extractN rfl rfl rfl) ?_
  refine RunL.still rfl rfl rfl (Still.extractN rfl rfl rfl) ?_
  refine RunL.grows rfl rfl rfl (Grows.alloc rfl Tryd.zeroValue24) (fun b17 _ => ?_)
  refine RunL.does0 rfl rfl (Does.store rfl rfl rfl (i := 0) rfl Tryd.sizeOf24 rfl (rfl) rfl) (fun _ _ => ?_)
  refine RunL.still rfl rfl rfl (Still.assign rfl rfl) ?_
  refine RunL.nil ?_
  refine Ends.then ?_
  refine RunC.seq ?_
  refine RunC.seq ?_
  refine RunC.region ?_
  refine RunL.still rfl rfl rfl (Still.move rfl rfl) ?_
  refine RunL.still rfl rfl rfl (Still.move rfl rfl) ?_
  refine RunL.still rfl rfl rfl (Still.neq rfl rfl rfl) ?_
  refine RunL.again (t := 105) (u := .bool false) rfl (rfl) ?_
  refine RunL.still rfl rfl rfl (Still.move rfl rfl) ?_
  refine RunL.still rfl rfl rfl (Still.move rfl rfl) ?_
  refine RunL.still rfl rfl rfl (Still.move rfl rfl) ?_
  refine RunL.still rfl rfl rfl (Still.neq rfl rfl rfl) ?_
  refine RunL.again (t := 109) (u := .bool false) rfl (rfl) ?_
  refine RunL.still rfl rfl rfl (Still.pickF rfl rfl rfl) ?_
  refine RunL.still rfl rfl rfl (Still.move rfl rfl) ?_
  refine RunL.still rfl rfl rfl (Still.loads rfl rfl Tryd.isAgg24 Tryd.sizeOf24 (vs := [_, _]) rfl (fun _ hs => cells_nth (hs.at (i := 6) rfl) ⟨rfl, ⟨rfl, trivial⟩⟩)) ?_
  refine RunL.still rfl rfl rfl (Still.loads rfl rfl Tryd.isAgg24 Tryd.sizeOf24 (vs := [_, _]) rfl (fun _ hs => cells_nth (hs.at (i := 2) rfl) ⟨rfl, ⟨rfl, trivial⟩⟩)) ?_
  refine RunL.grows rfl rfl rfl (Grows.call (vs := #[_, _]) rfl rfl Tryd.call22 (fun w hs => ref_Same_eq uq.1 uq2.1 _ _ uq.2 uq2.2 (uniD a b) (uniD a b) w (DiaAt.of_ownD hU (hs.at (i := 7) rfl)) (DiaAt.of_ownD hU (hs.at (i := 3) rfl)) rfl)) (fun _ _ => ?_)
  refine RunL.again (t := 114) (u := .bool true) rfl (rfl) ?_
  refine RunL.still rfl rfl rfl (Still.not rfl rfl) ?_
  refine RunL.still rfl rfl rfl (Still.pickF rfl rfl rfl) ?_
  refine RunL.still rfl rfl rfl (Still.move rfl rfl) ?_
  refine RunL.still rfl rfl rfl (Still.loads rfl rfl Tryd.isAgg24 Tryd.sizeOf24 (vs := [_, _]) rfl (fun _ hs => cells_nth (hs.at (i := 4) rfl) ⟨rfl, ⟨rfl, trivial⟩⟩)) ?_
  refine RunL.still rfl rfl rfl (Still.loads rfl rfl Tryd.isAgg24 Tryd.sizeOf24 (vs := [_, _]) rfl (fun _ hs => cells_nth (hs.at (i := 0) rfl) ⟨rfl, ⟨rfl, trivial⟩⟩)) ?_
  refine RunL.grows rfl rfl rfl (Grows.call (vs := #[_, _]) rfl rfl Tryd.call22 (fun w hs => ref_Same_eq sq.1 sq2.1 _ _ sq.2 sq2.2 (withL (uniD a b) ((uniD a b).loops - 1)) (withL (uniD a b) ((uniD a b).loops - 1)) w (DiaAt.of_ownD hD (hs.at (i := 5) rfl)) (DiaAt.of_ownD hD (hs.at (i := 1) rfl)) rfl)) (fun _ _ => ?_)
  refine RunL.again (t := 120) (u := .bool true) rfl (rfl) ?_
  refine RunL.still rfl rfl rfl (Still.not rfl rfl) ?_
  refine RunL.still rfl rfl rfl (Still.pickF rfl rfl rfl) ?_
  refine RunL.nil ?_
  refine Ends.then ?_
  refine RunC.cond_false rfl ?_
  refine RunC.skip ?_
  refine Ends.then ?_
  refine RunC.seq ?_
  refine RunC.seq ?_
  refine RunC.region ?_
  refine RunL.still rfl rfl rfl (Still.move rfl rfl) ?_
  refine RunL.still rfl rfl rfl (Still.neq rfl rfl rfl) ?_
  refine RunL.again (t := 124) (u := .bool false) rfl (rfl) ?_
  refine RunL.nil ?_
  refine Ends.then ?_
  refine RunC.cond_false rfl ?_
  refine RunC.skip ?_
  refine Ends.then ?_
  refine RunC.seq ?_
  refine RunC.region ?_
  refine RunL.still rfl rfl rfl (Still.loads rfl rfl Tryd.isAgg24 Tryd.sizeOf24 (vs := [_, _]) rfl (fun _ hs => cells_nth (hs.at (i := 6) rfl) ⟨rfl, ⟨rfl, trivial⟩⟩)) ?_
  refine RunL.grows rfl rfl rfl (Grows.call (vs := #[_]) rfl rfl Tryd.call9 (fun w hs => dg_Components_ok uq.1 _ uq.2 (uniD a b) w (DiaAt.of_ownD hU (hs.at (i := 7) rfl)) hcU)) (fun ov hov => ?_)
  refine RunL.still rfl rfl rfl (Still.move rfl rfl) ?_
  refine RunL.still rfl rfl rfl (Still.extractN rfl rfl rfl) ?_
  refine RunL.still rfl rfl rfl (Still.extractN rfl rfl rfl) ?_
  refine RunL.still rfl rfl rfl (Still.extractN rfl rfl rfl) ?_
  refine RunL.still rfl rfl rfl (Still.assign rfl rfl) ?_
  refine RunL.still rfl rfl rfl (Still.assign rfl rfl) ?_
  refine RunL.still rfl rfl rfl (Still.assign rfl rfl) ?_
  refine RunL.nil ?_
  refine Ends.then ?_
  refine RunC.seq ?_
  refine RunC.region ?_
  refine RunL.still rfl rfl rfl (Still.loads rfl rfl Tryd.isAgg24 Tryd.sizeOf24 (vs := [_, _]) rfl (fun _ hs => cells_nth (hs.at (i := 7) rfl) ⟨rfl, ⟨rfl, trivial⟩⟩)) ?_
  refine RunL.grows rfl rfl rfl (Grows.call (vs := #[_]) rfl rfl Tryd.call11 (fun w hs => dg_Writhe_ok uq.1 _ uq.2 (uniD a b) w (DiaAt.of_ownD hU (hs.at (i := 8) rfl)) hcU)) (fun _ _ => ?_)
  refine RunL.still rfl rfl rfl (Still.move rfl rfl) ?_
  refine RunL.still rfl rfl rfl (Still.extractN rfl rfl rfl) ?_
  refine RunL.still rfl rfl rfl (Still.extractN rfl rfl rfl) ?_
  refine RunL.still rfl rfl rfl (Still.assign rfl rfl) ?_
  refine RunL.still rfl rfl rfl (Still.assign rfl rfl) ?_
  refine RunL.nil ?_
  refine Ends.then ?_
  refine RunC.seq ?_
  refine RunC.seq ?_
  refine RunC.draw 28 (.still 0 (.one 1 (.still 2 (.still 3 (.still 4 (.still 5 (.still 6 (.still 7 (.still 8 (.still 9 (.still 10 (.still 11 (.still 12 (.still 13 (.still 15 (.one 14 (.one 16 (.still 17 (.still 18 (.still 19 (.still 20 (.still 21 (.still 22 (.still 24 (.one 23 (.one 25 (.still 26 (.still 27 .done)))))))))))))))))))))))))))) (by kernel_rfl) (by kernel_rfl) ?_
  refine RunG.still rfl rfl rfl rfl (Still.loads rfl rfl Tryd.isAgg24 Tryd.sizeOf24 (vs := [_, _]) rfl (fun _ hs => cells_nth (hs.at (i := 7) rfl) ⟨rfl, ⟨rfl, trivial⟩⟩)) ?_
  refine RunG.grows rfl rfl rfl rfl (Grows.call (vs := #[_]) rfl rfl Tryd.call8 (fun w hs => ref_Check_v uq.1 _ uq.2 (uniD a b) 0 w (DiaAt.of_ownD hU (hs.at (i := 8) rfl)) hcU)) (fun _ _ => ?_)
  refine RunG.still rfl rfl rfl rfl (Still.neq rfl rfl rfl) ?_
  refine RunG.again (t := 139) (u := .bool false) rfl (rfl) ?_
  refine RunG.still rfl rfl rfl rfl (Still.move rfl rfl) ?_
  refine RunG.still rfl rfl rfl rfl (Still.move rfl rfl) ?_
  refine RunG.still rfl rfl rfl rfl (Still.neq rfl rfl rfl) ?_
  refine RunG.again (t := 142) (u := .bool false) rfl (rfl) ?_
  refine RunG.still rfl rfl rfl rfl (Still.pickF rfl rfl rfl) ?_
  refine RunG.still rfl rfl rfl rfl (Still.move rfl rfl) ?_
  refine RunG.still rfl rfl rfl rfl (Still.move rfl rfl) ?_
  refine RunG.still rfl rfl rfl rfl (Still.neq rfl rfl rfl) ?_
  refine RunG.again (t := 146) (u := .bool false) rfl (rfl) ?_
  refine RunG.still rfl rfl rfl rfl (Still.pickF rfl rfl rfl) ?_
  refine RunG.still rfl rfl rfl rfl (Still.move rfl rfl) ?_
  refine RunG.still rfl rfl rfl rfl (Still.move rfl rfl) ?_
  refine RunG.still rfl rfl rfl rfl (Still.loads rfl rfl Tryd.isAgg24 Tryd.sizeOf24 (vs := [_, _]) rfl (fun _ hs => cells_nth (hs.at (i := 10) rfl) ⟨rfl, ⟨rfl, trivial⟩⟩)) ?_
  refine RunG.still rfl rfl rfl rfl (Still.loads rfl rfl Tryd.isAgg24 Tryd.sizeOf24 (vs := [_, _]) rfl (fun _ hs => cells_nth (hs.at (i := 9) rfl) ⟨rfl, ⟨rfl, trivial⟩⟩)) ?_
  refine RunG.grows rfl rfl rfl rfl (Grows.call (vs := #[_]) rfl rfl Tryd.call17 (fun w hs => ref_Count' ba A ca a w (hda.sym hs) sa)) (fun _ _ => ?_)
  refine RunG.grows rfl rfl rfl rfl (Grows.call (vs := #[_]) rfl rfl Tryd.call17 (fun w hs => ref_Count' bb B cb b w (hdb.sym hs) sb)) (fun _ _ => ?_)
  refine RunG.still rfl rfl rfl rfl (Still.add rfl rfl rfl (fits64 (by omega) (by omega))) ?_
  refine RunG.still rfl rfl rfl rfl (Still.neq rfl rfl rfl) ?_
  refine RunG.again (t := 155) (u := .bool false) rfl (congrArg Value.bool (decide_eq_false (fun h => h (by omega)))) ?_
  refine RunG.still rfl rfl rfl rfl (Still.pickF rfl rfl rfl) ?_
  refine RunG.still rfl rfl rfl rfl (Still.move rfl rfl) ?_
  refine RunG.still rfl rfl rfl rfl (Still.move rfl rfl) ?_
  refine RunG.still rfl rfl rfl rfl (Still.loads rfl rfl Tryd.isAgg24 Tryd.sizeOf24 (vs := [_, _]) rfl (fun _ hs => cells_nth (hs.at (i := 10) rfl) ⟨rfl, ⟨rfl, trivial⟩⟩)) ?_
  refine RunG.still rfl rfl rfl rfl (Still.loads rfl rfl Tryd.isAgg24 Tryd.sizeOf24 (vs := [_, _]) rfl (fun _ hs => cells_nth (hs.at (i := 9) rfl) ⟨rfl, ⟨rfl, trivial⟩⟩)) ?_
  refine RunG.grows rfl rfl rfl rfl (Grows.call (vs := #[_]) rfl rfl Tryd.call18 (fun w hs => ref_Writhe' ba A ca a w (hda.sym hs) sa)) (fun _ _ => ?_)
  refine RunG.grows rfl rfl rfl rfl (Grows.call (vs := #[_]) rfl rfl Tryd.call18 (fun w hs => ref_Writhe' bb B cb b w (hdb.sym hs) sb)) (fun _ _ => ?_)
  refine RunG.still rfl rfl rfl rfl (Still.add rfl rfl rfl (fits64 (by omega) (by omega))) ?_
  refine RunG.still rfl rfl rfl rfl (Still.neq rfl rfl rfl) ?_
  refine RunG.again (t := 164) (u := .bool false) rfl (congrArg Value.bool (decide_eq_false (fun h => h (by omega)))) ?_
  refine RunG.done ?_
  show RunL _ _ _ [_] _ _
  refine RunL.still rfl rfl rfl (Still.pickF rfl rfl rfl) ?_
  refine RunL.nil ?_
  refine Ends.then ?_
  refine RunC.cond_false rfl ?_
  refine RunC.skip ?_
  refine Ends.then ?_
  refine RunC.seq ?_
  refine RunC.seq ?_
  refine RunC.region ?_
  refine RunL.still rfl rfl rfl (Still.move rfl rfl) ?_
  refine RunL.still rfl rfl rfl (Still.neq rfl rfl rfl) ?_
  refine RunL.again (t := 167) (u := .bool false) rfl (rfl) ?_
  refine RunL.nil ?_
  refine Ends.then ?_
  refine RunC.cond_false rfl ?_
  refine RunC.skip ?_
  refine Ends.then ?_
  refine RunC.seq ?_
  refine RunC.region ?_
  refine RunL.still rfl rfl rfl (Still.loads rfl rfl Tryd.isAgg24 Tryd.sizeOf24 (vs := [_, _]) rfl (fun _ hs => cells_nth (hs.at (i := 5) rfl) ⟨rfl, ⟨rfl, trivial⟩⟩)) ?_
  refine RunL.grows rfl rfl rfl (Grows.call (vs := #[_]) rfl rfl Tryd.call9 (fun w hs => dg_Components_ok sq.1 _ sq.2 (withL (uniD a b) ((uniD a b).loops - 1)) w (DiaAt.of_ownD hD (hs.at (i := 6) rfl)) hcD)) (fun ov2 hov2 => ?_)
  refine RunL.still rfl rfl rfl (Still.move rfl rfl) ?_
  refine RunL.still rfl rfl rfl (Still.extractN rfl rfl rfl) ?_
  refine RunL.still rfl rfl rfl (Still.extractN rfl rfl rfl) ?_
  refine RunL.still rfl rfl rfl (Still.extractN rfl rfl rfl) ?_
  refine RunL.still rfl rfl rfl (Still.assign rfl rfl) ?_
  refine RunL.still rfl rfl rfl (Still.assign rfl rfl) ?_
  refine RunL.still rfl rfl rfl (Still.assign rfl rfl) ?_
  refine RunL.nil ?_
  refine Ends.then ?_
  refine RunC.seq ?_
  refine RunC.region ?_
  refine RunL.still rfl rfl rfl (Still.loads rfl rfl Tryd.isAgg24 Tryd.sizeOf24 (vs := [_, _]) rfl (fun _ hs => cells_nth (hs.at (i := 6) rfl) ⟨rfl, ⟨rfl, trivial⟩⟩)) ?_
  refine RunL.grows rfl rfl rfl (Grows.call (vs := #[_]) rfl rfl Tryd.call11 (fun w hs => dg_Writhe_ok sq.1 _ sq.2 (withL (uniD a b) ((uniD a b).loops - 1)) w (DiaAt.of_ownD hD (hs.at (i := 7) rfl)) hcD)) (fun _ _ => ?_)
  refine RunL.still rfl rfl rfl (Still.move rfl rfl) ?_
  refine RunL.still rfl rfl rfl (Still.extractN rfl rfl rfl) ?_
  refine RunL.still rfl rfl rfl (Still.extractN rfl rfl rfl) ?_
  refine RunL.still rfl rfl rfl (Still.assign rfl rfl) ?_
  refine RunL.still rfl rfl rfl (Still.assign rfl rfl) ?_
  refine RunL.nil ?_
  refine Ends.then ?_
  refine RunC.seq ?_
  refine RunC.region ?_
  refine RunL.grows rfl rfl rfl (Grows.call (vs := #[]) rfl rfl Tryd.call13 (fun w hs => lw_sane w)) (fun _ _ => ?_)
  refine RunL.again (t := 180) (u := .bool true) rfl (rfl) ?_
  refine RunL.still rfl rfl rfl (Still.move rfl rfl) ?_
  refine RunL.still rfl rfl rfl (Still.loads rfl rfl Tryd.isAgg24 Tryd.sizeOf24 (vs := [_, _]) rfl (fun _ hs => cells_nth (hs.at (i := 6) rfl) ⟨rfl, ⟨rfl, trivial⟩⟩)) ?_
  refine RunL.grows rfl rfl rfl (Grows.call (vs := #[_]) rfl rfl Tryd.call8 (fun w hs => ref_Check_v sq.1 _ sq.2 (withL (uniD a b) ((uniD a b).loops - 1)) 0 w (DiaAt.of_ownD hD (hs.at (i := 7) rfl)) hcD)) (fun _ _ => ?_)
  refine RunL.still rfl rfl rfl (Still.eql rfl rfl rfl) ?_
  refine RunL.again (t := 184) (u := .bool true) rfl (rfl) ?_
  refine RunL.still rfl rfl rfl (Still.pickT rfl rfl rfl) ?_
  refine RunL.still rfl rfl rfl (Still.move rfl rfl) ?_
  refine RunL.still rfl rfl rfl (Still.move rfl rfl) ?_
  refine RunL.still rfl rfl rfl (Still.eql rfl rfl rfl) ?_
  refine RunL.again (t := 188) (u := .bool true) rfl (rfl) ?_
  refine RunL.still rfl rfl rfl (Still.pickT rfl rfl rfl) ?_
  refine RunL.still rfl rfl rfl (Still.move rfl rfl) ?_
  refine RunL.still rfl rfl rfl (Still.move rfl rfl) ?_
  refine RunL.still rfl rfl rfl (Still.eql rfl rfl rfl) ?_
  refine RunL.again (t := 192) (u := .bool true) rfl (rfl) ?_
  refine RunL.still rfl rfl rfl (Still.pickT rfl rfl rfl) ?_
  refine RunL.still rfl rfl rfl (Still.move rfl rfl) ?_
  refine RunL.still rfl rfl rfl (Still.move rfl rfl) ?_
  refine RunL.still rfl rfl rfl (Still.move rfl rfl) ?_
  refine RunL.still rfl rfl rfl (Still.sub rfl rfl rfl (fits64 (by omega) (by omega))) ?_
  refine RunL.still rfl rfl rfl (Still.eql rfl rfl rfl) ?_
  refine RunL.again (t := 198) (u := .bool true) rfl (congrArg Value.bool (decide_eq_true (by omega))) ?_
  refine RunL.still rfl rfl rfl (Still.pickT rfl rfl rfl) ?_
  refine RunL.still rfl rfl rfl (Still.move rfl rfl) ?_
  refine RunL.still rfl rfl rfl (Still.move rfl rfl) ?_
  refine RunL.still rfl rfl rfl (Still.move rfl rfl) ?_
  refine RunL.still rfl rfl rfl (Still.eql rfl rfl rfl) ?_
  refine RunL.again (t := 203) (u := .bool true) rfl (congrArg Value.bool (decide_eq_true (hDw))) ?_
  refine RunL.still rfl rfl rfl (Still.pickT rfl rfl rfl) ?_
  refine RunL.still rfl rfl rfl (Still.assign rfl rfl) ?_
  refine RunL.nil ?_
  refine Ends.then ?_
  refine RunC.ret ?_
  refine Ends.leave (.inl rfl) (fun _ _ ok => results1 Tryd.results6 (Holds.tmp rfl) ok) (fun w1 hs => ?_)
  exact Ret.intro () trivial rfl (HSub.nil _) hs

theorem lw_DiagSums_spl (ba : Option Addr) (A : Addr) (ca : Nat) (a : Dia) (bb : Option Addr) (B : Addr) (cb : Nat) (b : Dia) (i j : Int) (w : World) (hda : DiaAt w ba A a) (hdb : DiaAt w bb B b) (hl : ¬ (20 < a.cross.length ∧ a.cross.length ≤ 200)) (hm : ¬ (20 < b.cross.length ∧ b.cross.length ≤ 200)) (hca : checkI a = 0) (hcb : checkI b = 0) (hu : ¬ uniBad a b) (hi0 : 0 ≤ i) (hi1 : i < 2 * a.cross.length) (hj0 : 0 ≤ j) (hj1 : j < 2 * b.cross.length) : Gives Tryd.prog 6 #[diaV ba ca a, diaV bb cb b, iv i, iv j] w Nil (fun _ : Unit => True) (fun _ => .bool true) (fun _ => []) := by
  obtain ⟨sa, pla⟩ := checkI_ok.1 hca
  obtain ⟨sb, plb⟩ := checkI_ok.1 hcb
  have a200 := sa.1
  have al0 := sa.2.1
  have al1 := sa.2.2.1
  have b200 := sb.1
  have bl0 := sb.2.1
  have bl1 := sb.2.2.1
  have hka := compTo_le (nextN a) (2 * a.cross.length) (2 * a.cross.length)
  rw [← compCount] at hka
  have hkb := compTo_le (nextN b) (2 * b.cross.length) (2 * b.cross.length)
  rw [← compCount] at hkb
  have hB := Both.of sa sb hu
  have hU := uni_sound hB
  have hcU := checkI_of hU (uni_planar hB pla plb)
  have hul : (uniD a b).loops = a.loops + b.loops := rfl
  have hun := uniD_len a b
  have hcnt := uni_count hB
  have hwr := uni_writhe a b
  have wba := writhe_bound sa
  have wbb := writhe_bound sb
  have hD : SoundP (splD a b i j) := spl_sound hB hi0 hi1 hj0 hj1
  have hcD := checkI_of hD (spl_planar hB pla plb hi0 hi1 hj0 hj1)
  have hDl : (splD a b i j).loops = (uniD a b).loops := rfl
  have hDc := spl_count hB hi0 hi1 hj0 hj1
  have hDw := spl_writhe hB hi0 hi1 hj0 hj1
  refine fn_of_run (S := Nil) (args := [diaV ba ca a, diaV bb cb b, iv i, iv j]) (n := 205) (L := []) Tryd.func6 rfl Tryd.ntmps6 (Nat.le_of_ble_eq_true rfl) (Sym.nil _ _) ?_
  change RunC _ _ _ [(0, _), (1, _), (2, _), (3, _)] _
  refine RunC.seq ?_
  refine RunC.region ?_
  refine RunL.grows rfl rfl rfl (Grows.box rfl rfl) (fun b4 _ => ?_)
  refine RunL.grows rfl rfl rfl (Grows.box rfl rfl) (fun b5 _ => ?_)
  refine RunL.still rfl rfl rfl (Still.assign rfl rfl) ?_
  refine RunL.nil ?_
  refine Ends.then ?_
  refine RunC.seq ?_
  refine RunC.seq ?_
  refine RunC.region ?_
  refine RunL.still rfl rfl rfl (Still.loads rfl rfl Tryd.isAgg24 Tryd.sizeOf24 (vs := [_, _]) rfl (fun _ hs => cells_nth (hs.at (i := 1) rfl) ⟨rfl, ⟨rfl, trivial⟩⟩)) ?_
  refine RunL.grows rfl rfl rfl (Grows.call (vs := #[_]) rfl rfl Tryd.call7 (fun w hs => lw_large ba ca a w)) (fun _ _ => ?_)
  refine RunL.again (t := 30) (u := .bool false) rfl (congrArg Value.bool (decide_eq_false (hl))) ?_
  refine RunL.still rfl rfl rfl (Still.move rfl rfl) ?_
  refine RunL.still rfl rfl rfl (Still.loads rfl rfl Tryd.isAgg24 Tryd.sizeOf24 (vs := [_, _]) rfl (fun _ hs => cells_nth (hs.at (i := 0) rfl) ⟨rfl, ⟨rfl, trivial⟩⟩)) ?_
  refine RunL.grows rfl rfl rfl (Grows.call (vs := #[_]) rfl rfl Tryd.call7 (fun w hs => lw_large bb cb b w)) (fun _ _ => ?_)
  refine RunL.again (t := 33) (u := .bool false) rfl (congrArg Value.bool (decide_eq_false (hm))) ?_
  refine RunL.still rfl rfl rfl (Still.pickF rfl rfl rfl) ?_
  refine RunL.nil ?_
  refine Ends.then ?_
  refine RunC.cond_false rfl ?_
  refine RunC.skip ?_
  refine Ends.then ?_
  refine RunC.seq ?_
  refine RunC.region ?_
  refine RunL.still rfl rfl rfl (Still.loads rfl rfl Tryd.isAgg24 Tryd.sizeOf24 (vs := [_, _]) rfl (fun _ hs => cells_nth (hs.at (i := 1) rfl) ⟨rfl, ⟨rfl, trivial⟩⟩)) ?_
  refine RunL.still rfl rfl rfl (Still.loads rfl rfl Tryd.isAgg24 Tryd.sizeOf24 (vs := [_, _]) rfl (fun _ hs => cells_nth (hs.at (i := 0) rfl) ⟨rfl, ⟨rfl, trivial⟩⟩)) ?_
  refine RunL.grows rfl rfl rfl (Grows.call (vs := #[_, _]) rfl rfl Tryd.call29 (fun w hs => dg_Union_ok ba A ca a bb B cb b w (hda.sym hs) (hdb.sym hs) hca hcb hu)) (fun uq _ => ?_)
  refine RunL.still rfl rfl rfl (Still.move rfl rfl) ?_
  refine RunL.still rfl rfl rfl (Still.extractN rfl rfl rfl) ?_
  refine RunL.still rfl rfl rfl (Still.extractN rfl rfl rfl) ?_
  refine RunL.grows rfl rfl rfl (Grows.alloc rfl Tryd.zeroValue24) (fun b9 _ => ?_)
  refine RunL.does0 rfl rfl (Does.store rfl rfl rfl (i := 0) rfl Tryd.sizeOf24 rfl (rfl) rfl) (fun _ _ => ?_)
  refine RunL.still rfl rfl rfl (Still.assign rfl rfl) ?_
  refine RunL.nil ?_
  refine Ends.then ?_
  refine RunC.seq ?_
  refine RunC.region ?_
  refine RunL.still rfl rfl rfl (Still.loads rfl rfl Tryd.isAgg24 Tryd.sizeOf24 (vs := [_, _]) rfl (fun _ hs => cells_nth (hs.at (i := 3) rfl) ⟨rfl, ⟨rfl, trivial⟩⟩)) ?_
  refine RunL.still rfl rfl rfl (Still.move rfl rfl) ?_
  refine RunL.still rfl rfl rfl (Still.loads rfl rfl Tryd.isAgg24 Tryd.sizeOf24 (vs := [_, _]) rfl (fun _ hs => cells_nth (hs.at (i := 2) rfl) ⟨rfl, ⟨rfl, trivial⟩⟩)) ?_
  refine RunL.still rfl rfl rfl (Still.move rfl rfl) ?_
  refine RunL.grows rfl rfl rfl (Grows.call (vs := #[_, _, _, _]) rfl rfl Tryd.call30 (fun w hs => dg_Sum_spl ba A ca a i bb B cb b j w (hda.sym hs) (hdb.sym hs) hca hcb hu hi0 hi1 hj0 hj1)) (fun sq _ => ?_)
  refine RunL.still rfl rfl rfl (Still.move rfl rfl) ?_
  refine RunL.still rfl rfl rfl (Still.extractN rfl rfl rfl) ?_
  refine RunL.still rfl rfl rfl (Still.extractN rfl rfl rfl) ?_
  refine RunL.grows rfl rfl rfl (Grows.alloc rfl Tryd.zeroValue24) (fun b11 _ => ?_)
  refine RunL.does0 rfl rfl (Does.store rfl rfl rfl (i := 0) rfl Tryd.sizeOf24 rfl (rfl) rfl) (fun _ _ => ?_)
  refine RunL.still rfl rfl rfl (Still.assign rfl rfl) ?_
  refine RunL.nil ?_
  refine Ends.then ?_
  refine RunC.seq ?_
  refine RunC.region ?_
  refine RunL.still rfl rfl rfl (Still.loads rfl rfl Tryd.isAgg24 Tryd.sizeOf24 (vs := [_, _]) rfl (fun _ hs => cells_nth (hs.at (i := 5) rfl) ⟨rfl, ⟨rfl, trivial⟩⟩)) ?_
  refine RunL.grows rfl rfl rfl (Grows.call (vs := #[_]) rfl rfl Tryd.call8 (fun w hs => ref_Check_v ba A ca a 0 w (hda.sym hs) hca)) (fun _ _ => ?_)
  refine RunL.still rfl rfl rfl (Still.assign rfl rfl) ?_
  refine RunL.nil ?_
  refine Ends.then ?_
  refine RunC.seq ?_
  refine RunC.seq ?_
  refine RunC.region ?_
  refine RunL.still rfl rfl rfl (Still.loads rfl rfl Tryd.isAgg24 Tryd.sizeOf24 (vs := [_, _]) rfl (fun _ hs => cells_nth (hs.at (i := 4) rfl) ⟨rfl, ⟨rfl, trivial⟩⟩)) ?_
  refine RunL.grows rfl rfl rfl (Grows.call (vs := #[_]) rfl rfl Tryd.call8 (fun w hs => ref_Check_v bb B cb b 0 w (hdb.sym hs) hcb)) (fun _ _ => ?_)
  refine RunL.still rfl rfl rfl (Still.assign rfl rfl) ?_
  refine RunL.nil ?_
  refine Ends.then ?_
  refine RunC.seq ?_
  refine RunC.region ?_
  refine RunL.still rfl rfl rfl (Still.move rfl rfl) ?_
  refine RunL.still rfl rfl rfl (Still.eql rfl rfl rfl) ?_
  refine RunL.again (t := 54) (u := .bool true) rfl (rfl) ?_
  refine RunL.still rfl rfl rfl (Still.move rfl rfl) ?_
  refine RunL.off rfl rfl rfl ?_
  refine RunL.off rfl rfl rfl ?_
  refine RunL.off rfl rfl rfl ?_
  refine RunL.off rfl rfl rfl ?_
  refine RunL.off rfl rfl rfl ?_
  refine RunL.off rfl rfl rfl ?_
  refine RunL.still rfl rfl rfl (Still.pickT rfl rfl rfl) ?_
  refine RunL.nil ?_
  refine Ends.then ?_
  refine RunC.cond_true rfl ?_
  refine RunC.region ?_
  refine RunL.still rfl rfl rfl (Still.move rfl rfl) ?_
  refine RunL.still rfl rfl rfl (Still.assign rfl rfl) ?_
  refine RunL.nil ?_
  refine Ends.then ?_
  refine RunC.seq ?_
  refine RunC.seq ?_
  refine RunC.region ?_
  refine RunL.still rfl rfl rfl (Still.move rfl rfl) ?_
  refine RunL.still rfl rfl rfl (Still.neq rfl rfl rfl) ?_
  refine RunL.again (t := 65) (u := .bool false) rfl (rfl) ?_
  refine RunL.nil ?_
  refine Ends.then ?_
  refine RunC.cond_false rfl ?_
  refine RunC.skip ?_
  refine Ends.then ?_
  refine RunC.seq ?_
  refine RunC.region ?_
  refine RunL.still rfl rfl rfl (Still.loads rfl rfl Tryd.isAgg24 Tryd.sizeOf24 (vs := [_, _]) rfl (fun _ hs => cells_nth (hs.at (i := 5) rfl) ⟨rfl, ⟨rfl, trivial⟩⟩)) ?_
  refine RunL.still rfl rfl rfl (Still.loads rfl rfl Tryd.isAgg24 Tryd.sizeOf24 (vs := [_, _]) rfl (fun _ hs => cells_nth (hs.at (i := 4) rfl) ⟨rfl, ⟨rfl, trivial⟩⟩)) ?_
  refine RunL.grows rfl rfl rfl (Grows.call (vs := #[_, _]) rfl rfl Tryd.call31 (fun w hs => ref_Union ba A ca a bb B cb b w (hda.sym hs) (hdb.sym hs) sa sb hu)) (fun uq2 _ => ?_)
  refine RunL.still rfl rfl rfl (Still.move rfl rfl) ?_
  refine RunL.still rfl rfl rfl (Still.extractN rfl rfl rfl) ?_
  refine RunL.still rfl rfl rfl (Still.extractN rfl rfl rfl) ?_
  refine RunL.grows rfl rfl rfl (Grows.alloc rfl Tryd.zeroValue24) (fun b15 _ => ?_)
  refine RunL.does0 rfl rfl (Does.store rfl rfl rfl (i := 0) rfl Tryd.sizeOf24 rfl (rfl) rfl) (fun _ _ => ?_)
  refine RunL.still rfl rfl rfl (Still.assign rfl rfl) ?_
  refine RunL.nil ?_
  refine Ends.then ?_
  refine RunC.seq ?_
  refine RunC.region ?_
  refine RunL.still rfl rfl rfl (Still.loads rfl rfl Tryd.isAgg24 Tryd.sizeOf24 (vs := [_, _]) rfl (fun _ hs => cells_nth (hs.at (i := 7) rfl) ⟨rfl, ⟨rfl, trivial⟩⟩)) ?_
  refine RunL.still rfl rfl rfl (Still.move rfl rfl) ?_
  refine RunL.still rfl rfl rfl (Still.loads rfl rfl Tryd.isAgg24 Tryd.sizeOf24 (vs := [_, _]) rfl (fun _ hs => cells_nth (hs.at (i := 6) rfl) ⟨rfl, ⟨rfl, trivial⟩⟩)) ?_
  refine RunL.still rfl rfl rfl (Still.move rfl rfl) ?_
  refine RunL.grows rfl rfl rfl (Grows.call (vs := #[_, _, _, _]) rfl rfl Tryd.call32 (fun w hs => ref_Sum_spl ba A ca a i bb B cb b j w (hda.sym hs) (hdb.sym hs) sa sb hu hi0 hi1 hj0 hj1)) (fun sq2 _ => ?_)
  refine RunL.still rfl rfl rfl (Still.move rfl rfl) ?_
  refine RunL.still rfl rfl rfl (Still.extractN rfl rfl rfl) ?_
  refine RunL.still rfl rfl rfl (Still.extractN rfl rfl rfl) ?_
  refine RunL.grows rfl rfl rfl (Grows.alloc rfl Tryd.zeroValue24) (fun b17 _ => ?_)
  refine RunL.does0 rfl rfl (Does.store rfl rfl rfl (i := 0) rfl Tryd.sizeOf24 rfl (rfl) rfl) (fun _ _ => ?_)
  refine RunL.still rfl rfl rfl (Still.assign rfl rfl) ?_
  refine RunL.nil ?_
  refine Ends.then ?_
  refine RunC.seq ?_
  refine RunC.seq ?_
  refine RunC.region ?_
  refine RunL.still rfl rfl rfl (Still.move rfl rfl) ?_
  refine RunL.still rfl rfl rfl (Still.move rfl rfl) ?_
  refine RunL.still rfl rfl rfl (Still.neq rfl rfl rfl) ?_
  refine RunL.again (t := 105) (u := .bool false) rfl (rfl) ?_
  refine RunL.still rfl rfl rfl (Still.move rfl rfl) ?_
  refine RunL.still rfl rfl rfl (Still.move rfl rfl) ?_
  refine RunL.still rfl rfl rfl (Still.move rfl rfl) ?_
  refine RunL.still rfl rfl rfl (Still.neq rfl rfl rfl) ?_
  refine RunL.again (t := 109) (u := .bool false) rfl (rfl) ?_
  refine RunL.still rfl rfl rfl (Still.pickF rfl rfl rfl) ?_
  refine RunL.still rfl rfl rfl (Still.move rfl rfl) ?_
  refine RunL.still rfl rfl rfl (Still.loads rfl rfl Tryd.isAgg24 Tryd.sizeOf24 (vs := [_, _]) rfl (fun _ hs => cells_nth (hs.at (i := 6) rfl) ⟨rfl, ⟨rfl, trivial⟩⟩)) ?_
  refine RunL.still rfl rfl rfl (Still.loads rfl rfl Tryd.isAgg24 Tryd.sizeOf24 (vs := [_, _]) rfl (fun _ hs => cells_nth (hs.at (i := 2) rfl) ⟨rfl, ⟨rfl, trivial⟩⟩)) ?_
  refine RunL.grows rfl rfl rfl (Grows.call (vs := #[_, _]) rfl rfl Tryd.call22 (fun w hs => ref_Same_eq uq.1 uq2.1 _ _ uq.2 uq2.2 (uniD a b) (uniD a b) w (DiaAt.of_ownD hU (hs.at (i := 7) rfl)) (DiaAt.of_ownD hU (hs.at (i := 3) rfl)) rfl)) (fun _ _ => ?_)
  refine RunL.again (t := 114) (u := .bool true) rfl (rfl) ?_
  refine RunL.still rfl rfl rfl (Still.not rfl rfl) ?_
  refine RunL.still rfl rfl rfl (Still.pickF rfl rfl rfl) ?_
  refine RunL.still rfl rfl rfl (Still.move rfl rfl) ?_
  refine RunL.still rfl rfl rfl (Still.loads rfl rfl Tryd.isAgg24 Tryd.sizeOf24 (vs := [_, _]) rfl (fun _ hs => cells_nth (hs.at (i := 4) rfl) ⟨rfl, ⟨rfl, trivial⟩⟩)) ?_
  refine RunL.still rfl rfl rfl (Still.loads rfl rfl Tryd.isAgg24 Tryd.sizeOf24 (vs := [_, _]) rfl (fun _ hs => cells_nth (hs.at (i := 0) rfl) ⟨rfl, ⟨rfl, trivial⟩⟩)) ?_
  refine RunL.grows rfl rfl rfl (Grows.call (vs := #[_, _]) rfl rfl Tryd.call22 (fun w hs => ref_Same_eq sq.1 sq2.1 _ _ sq.2 sq2.2 (splD a b i j) (splD a b i j) w (DiaAt.of_ownD hD (hs.at (i := 5) rfl)) (DiaAt.of_ownD hD (hs.at (i := 1) rfl)) rfl)) (fun _ _ => ?_)
  refine RunL.again (t := 120) (u := .bool true) rfl (rfl) ?_
  refine RunL.still rfl rfl rfl (Still.not rfl rfl) ?_
  refine RunL.still rfl rfl rfl (Still.pickF rfl rfl rfl) ?_
  refine RunL.nil ?_
  refine Ends.then ?_
  refine RunC.cond_false rfl ?_
  refine RunC.skip ?_
  refine Ends.then ?_
  refine RunC.seq ?_
  refine RunC.seq ?_
  refine RunC.region ?_
  refine RunL.still rfl rfl rfl (Still.move rfl rfl) ?_
  refine RunL.still rfl rfl rfl (Still.neq rfl rfl rfl) ?_
  refine RunL.again (t := 124) (u := .bool false) rfl (rfl) ?_
  refine RunL.nil ?_
  refine Ends.then ?_
  refine RunC.cond_false rfl ?_
  refine RunC.skip ?_
  refine Ends.then ?_
  refine RunC.seq ?_
  refine RunC.region ?_
  refine RunL.still rfl rfl rfl (Still.loads rfl rfl Tryd.isAgg24 Tryd.sizeOf24 (vs := [_, _]) rfl (fun _ hs => cells_nth (hs.at (i := 6) rfl) ⟨rfl, ⟨rfl, trivial⟩⟩)) ?_
  refine RunL.grows rfl rfl rfl (Grows.call (vs := #[_]) rfl rfl Tryd.call9 (fun w hs => dg_Components_ok uq.1 _ uq.2 (uniD a b) w (DiaAt.of_ownD hU (hs.at (i := 7) rfl)) hcU)) (fun ov hov => ?_)
  refine RunL.still rfl rfl rfl (Still.move rfl rfl) ?_
  refine RunL.still rfl rfl rfl (Still.extractN rfl rfl rfl) ?_
  refine RunL.still rfl rfl rfl (Still.extractN rfl rfl rfl) ?_
  refine RunL.still rfl rfl rfl (Still.extractN rfl rfl rfl) ?_
  refine RunL.still rfl rfl rfl (Still.assign rfl rfl) ?_
  refine RunL.still rfl rfl rfl (Still.assign rfl rfl) ?_
  refine RunL.still rfl rfl rfl (Still.assign rfl rfl) ?_
  refine RunL.nil ?_
  refine Ends.then ?_
  refine RunC.seq ?_
  refine RunC.region ?_
  refine RunL.still rfl rfl rfl (Still.loads rfl rfl Tryd.isAgg24 Tryd.sizeOf24 (vs := [_, _]) rfl (fun _ hs => cells_nth (hs.at (i := 7) rfl) ⟨rfl, ⟨rfl, trivial⟩⟩)) ?_
  refine RunL.grows rfl rfl rfl (Grows.call (vs := #[_]) rfl rfl Tryd.call11 (fun w hs => dg_Writhe_ok uq.1 _ uq.2 (uniD a b) w (DiaAt.of_ownD hU (hs.at (i := 8) rfl)) hcU)) (fun _ _ => ?_)
  refine RunL.still rfl rfl rfl (Still.move rfl rfl) ?_
  refine RunL.still rfl rfl rfl (Still.extractN rfl rfl rfl) ?_
  refine RunL.still rfl rfl rfl (Still.extractN rfl rfl rfl) ?_
  refine RunL.still rfl rfl rfl (Still.assign rfl rfl) ?_
  refine RunL.still rfl rfl rfl (Still.assign rfl rfl) ?_
  refine RunL.nil ?_
  refine Ends.then ?_
  refine RunC.seq ?_
  refine RunC.seq ?_
  refine RunC.draw 28 (.still 0 (.one 1 (.still 2 (.still 3 (.still 4 (.still 5 (.still 6 (.still 7 (.still 8 (.still 9 (.still 10 (.still 11 (.still 12 (.still 13 (.still 15 (.one 14 (.one 16 (.still 17 (.still 18 (.still 19 (.still 20 (.still 21 (.still 22 (.still 24 (.one 23 (.one 25 (.still 26 (.still 27 .done)))))))))))))))))))))))))))) (by kernel_rfl) (by kernel_rfl) ?_
  refine RunG.still rfl rfl rfl rfl (Still.loads rfl rfl Tryd.isAgg24 Tryd.sizeOf24 (vs := [_, _]) rfl (fun _ hs => cells_nth (hs.at (i := 7) rfl) ⟨rfl, ⟨rfl, trivial⟩⟩)) ?_
  refine RunG.grows rfl rfl rfl rfl (Grows.call (vs := #[_]) rfl rfl Tryd.call8 (fun w hs => ref_Check_v uq.1 _ uq.2 (uniD a b) 0 w (DiaAt.of_ownD hU (hs.at (i := 8) rfl)) hcU)) (fun _ _ => ?_)
  refine RunG.still rfl rfl rfl rfl (Still.neq rfl rfl rfl) ?_
  refine RunG.again (t := 139) (u := .bool false) rfl (rfl) ?_
  refine RunG.still rfl rfl rfl rfl (Still.move rfl rfl) ?_
  refine RunG.still rfl rfl rfl rfl (Still.move rfl rfl) ?_
  refine RunG.still rfl rfl rfl rfl (Still.neq rfl rfl rfl) ?_
  refine RunG.again (t := 142) (u := .bool false) rfl (rfl) ?_
  refine RunG.still rfl rfl rfl rfl (Still.pickF rfl rfl rfl) ?_
  refine RunG.still rfl rfl rfl rfl (Still.move rfl rfl) ?_
  refine RunG.still rfl rfl rfl rfl (Still.move rfl rfl) ?_
  refine RunG.still rfl rfl rfl rfl (Still.neq rfl rfl rfl) ?_
  refine RunG.again (t := 146) (u := .bool false) rfl (rfl) ?_
  refine RunG.still rfl rfl rfl rfl (Still.pickF rfl rfl rfl) ?_
  refine RunG.still rfl rfl rfl rfl (Still.move rfl rfl) ?_
  refine RunG.still rfl rfl rfl rfl (Still.move rfl rfl) ?_
  refine RunG.still rfl rfl rfl rfl (Still.loads rfl rfl Tryd.isAgg24 Tryd.sizeOf24 (vs := [_, _]) rfl (fun _ hs => cells_nth (hs.at (i := 10) rfl) ⟨rfl, ⟨rfl, trivial⟩⟩)) ?_
  refine RunG.still rfl rfl rfl rfl (Still.loads rfl rfl Tryd.isAgg24 Tryd.sizeOf24 (vs := [_, _]) rfl (fun _ hs => cells_nth (hs.at (i := 9) rfl) ⟨rfl, ⟨rfl, trivial⟩⟩)) ?_
  refine RunG.grows rfl rfl rfl rfl (Grows.call (vs := #[_]) rfl rfl Tryd.call17 (fun w hs => ref_Count' ba A ca a w (hda.sym hs) sa)) (fun _ _ => ?_)
  refine RunG.grows rfl rfl rfl rfl (Grows.call (vs := #[_]) rfl rfl Tryd.call17 (fun w hs => ref_Count' bb B cb b w (hdb.sym hs) sb)) (fun _ _ => ?_)
  refine RunG.still rfl rfl rfl rfl (Still.add rfl rfl rfl (fits64 (by omega) (by omega))) ?_
  refine RunG.still rfl rfl rfl rfl (Still.neq rfl rfl rfl) ?_
  refine RunG.again (t := 155) (u := .bool false) rfl (congrArg Value.bool (decide_eq_false (fun h => h (by omega)))) ?_
  refine RunG.still rfl rfl rfl rfl (Still.pickF rfl rfl rfl) ?_
  refine RunG.still rfl rfl rfl rfl (Still.move rfl rfl) ?_
  refine RunG.still rfl rfl rfl rfl (Still.move rfl rfl) ?_
  refine RunG.still rfl rfl rfl rfl (Still.loads rfl rfl Tryd.isAgg24 Tryd.sizeOf24 (vs := [_, _]) rfl (fun _ hs => cells_nth (hs.at (i := 10) rfl) ⟨rfl, ⟨rfl, trivial⟩⟩)) ?_
  refine RunG.still rfl rfl rfl rfl (Still.loads rfl rfl Tryd.isAgg24 Tryd.sizeOf24 (vs := [_, _]) rfl (fun _ hs => cells_nth (hs.at (i := 9) rfl) ⟨rfl, ⟨rfl, trivial⟩⟩)) ?_
  refine RunG.grows rfl rfl rfl rfl (Grows.call (vs := #[_]) rfl rfl Tryd.call18 (fun w hs => ref_Writhe' ba A ca a w (hda.sym hs) sa)) (fun _ _ => ?_)
  refine RunG.grows rfl rfl rfl rfl (Grows.call (vs := #[_]) rfl rfl Tryd.call18 (fun w hs => ref_Writhe' bb B cb b w (hdb.sym hs) sb)) (fun _ _ => ?_)
  refine RunG.still rfl rfl rfl rfl (Still.add rfl rfl rfl (fits64 (by omega) (by omega))) ?_
  refine RunG.still rfl rfl rfl rfl (Still.neq rfl rfl rfl) ?_
  refine RunG.again (t := 164) (u := .bool false) rfl (congrArg Value.bool (decide_eq_false (fun h => h (by omega)))) ?_
  refine RunG.done ?_
  show RunL _ _ _ [_] _ _
  refine RunL.still rfl rfl rfl (Still.pickF rfl rfl rfl) ?_
  refine RunL.nil ?_
  refine Ends.then ?_
  refine RunC.cond_false rfl ?_
  refine RunC.skip ?_
  refine Ends.then ?_
  refine RunC.seq ?_
  refine RunC.seq ?_
  refine RunC.region ?_
  refine RunL.still rfl rfl rfl (Still.move rfl rfl) ?_
  refine RunL.still rfl rfl rfl (Still.neq rfl rfl rfl) ?_
  refine RunL.again (t := 167) (u := .bool false) rfl (rfl) ?_
  refine RunL.nil ?_
  refine Ends.then ?_
  refine RunC.cond_false rfl ?_
  refine RunC.skip ?_
  refine Ends.then ?_
  refine RunC.seq ?_
  refine RunC.region ?_
  refine RunL.still rfl rfl rfl (Still.loads rfl rfl Tryd.isAgg24 Tryd.sizeOf24 (vs := [_, _]) rfl (fun _ hs => cells_nth (hs.at (i := 5) rfl) ⟨rfl, ⟨rfl, trivial⟩⟩)) ?_
  refine RunL.grows rfl rfl rfl (Grows.call (vs := #[_]) rfl rfl Tryd.call9 (fun w hs => dg_Components_ok sq.1 _ sq.2 (splD a b i j) w (DiaAt.of_ownD hD (hs.at (i := 6) rfl)) hcD)) (fun ov2 hov2 => ?_)
  refine RunL.still rfl rfl rfl (Still.move rfl rfl) ?_
  refine RunL.still rfl rfl rfl (Still.extractN rfl rfl rfl) ?_
  refine RunL.still rfl rfl rfl (Still.extractN rfl rfl rfl) ?_
  refine RunL.still rfl rfl rfl (Still.extractN rfl rfl rfl) ?_
  refine RunL.still rfl rfl rfl (Still.assign rfl rfl) ?_
  refine RunL.still rfl rfl rfl (Still.assign rfl rfl) ?_
  refine RunL.still rfl rfl rfl (Still.assign rfl rfl) ?_
  refine RunL.nil ?_
  refine Ends.then ?_
  refine RunC.seq ?_
  refine RunC.region ?_
  refine RunL.still rfl rfl rfl (Still.loads rfl rfl Tryd.isAgg24 Tryd.sizeOf24 (vs := [_, _]) rfl (fun _ hs => cells_nth (hs.at (i := 6) rfl) ⟨rfl, ⟨rfl, trivial⟩⟩)) ?_
  refine RunL.grows rfl rfl rfl (Grows.call (vs := #[_]) rfl rfl Tryd.call11 (fun w hs => dg_Writhe_ok sq.1 _ sq.2 (splD a b i j) w (DiaAt.of_ownD hD (hs.at (i := 7) rfl)) hcD)) (fun _ _ => ?_)
  refine RunL.still rfl rfl rfl (Still.move rfl rfl) ?_
  refine RunL.still rfl rfl rfl (Still.extractN rfl rfl rfl) ?_
  refine RunL.still rfl rfl rfl (Still.extractN rfl rfl rfl) ?_
  refine RunL.still rfl rfl rfl (Still.assign rfl rfl) ?_
  refine RunL.still rfl rfl rfl (Still.assign rfl rfl) ?_
  refine RunL.nil ?_
  refine Ends.then ?_
  refine RunC.seq ?_
  refine RunC.region ?_
  refine RunL.grows rfl rfl rfl (Grows.call (vs := #[]) rfl rfl Tryd.call13 (fun w hs => lw_sane w)) (fun _ _ => ?_)
  refine RunL.again (t := 180) (u := .bool true) rfl (rfl) ?_
  refine RunL.still rfl rfl rfl (Still.move rfl rfl) ?_
  refine RunL.still rfl rfl rfl (Still.loads rfl rfl Tryd.isAgg24 Tryd.sizeOf24 (vs := [_, _]) rfl (fun _ hs => cells_nth (hs.at (i := 6) rfl) ⟨rfl, ⟨rfl, trivial⟩⟩)) ?_
  refine RunL.grows rfl rfl rfl (Grows.call (vs := #[_]) rfl rfl Tryd.call8 (fun w hs => ref_Check_v sq.1 _ sq.2 (splD a b i j) 0 w (DiaAt.of_ownD hD (hs.at (i := 7) rfl)) hcD)) (fun _ _ => ?_)
  refine RunL.still rfl rfl rfl (Still.eql rfl rfl rfl) ?_
  refine RunL.again (t := 184) (u := .bool true) rfl (rfl) ?_
  refine RunL.still rfl rfl rfl (Still.pickT rfl rfl rfl) ?_
  refine RunL.still rfl rfl rfl (Still.move rfl rfl) ?_
  refine RunL.still rfl rfl rfl (Still.move rfl rfl) ?_
  refine RunL.still rfl rfl rfl (Still.eql rfl rfl rfl) ?_
  refine RunL.again (t := 188) (u := .bool true) rfl (rfl) ?_
  refine RunL.still rfl rfl rfl (Still.pickT rfl rfl rfl) ?_
  refine RunL.still rfl rfl rfl (Still.move rfl rfl) ?_
  refine RunL.still rfl rfl rfl (Still.move rfl rfl) ?_
  refine RunL.still rfl rfl rfl (Still.eql rfl rfl rfl) ?_
  refine RunL.again (t := 192) (u := .bool true) rfl (rfl) ?_
  refine RunL.still rfl rfl rfl (Still.pickT rfl rfl rfl) ?_
  refine RunL.still rfl rfl rfl (Still.move rfl rfl) ?_
  refine RunL.still rfl rfl rfl (Still.move rfl rfl) ?_
  refine RunL.still rfl rfl rfl (Still.move rfl rfl) ?_
  refine RunL.still rfl rfl rfl (Still.sub rfl rfl rfl (fits64 (by omega) (by omega))) ?_
  refine RunL.still rfl rfl rfl (Still.eql rfl rfl rfl) ?_
  refine RunL.again (t := 198) (u := .bool true) rfl (congrArg Value.bool (decide_eq_true (by omega))) ?_
  refine RunL.still rfl rfl rfl (Still.pickT rfl rfl rfl) ?_
  refine RunL.still rfl rfl rfl (Still.move rfl rfl) ?_
  refine RunL.still rfl rfl rfl (Still.move rfl rfl) ?_
  refine RunL.still rfl rfl rfl (Still.move rfl rfl) ?_
  refine RunL.still rfl rfl rfl (Still.eql rfl rfl rfl) ?_
  refine RunL.again (t := 203) (u := .bool true) rfl (congrArg Value.bool (decide_eq_true (hDw))) ?_
  refine RunL.still rfl rfl rfl (Still.pickT rfl rfl rfl) ?_
  refine RunL.still rfl rfl rfl (Still.assign rfl rfl) ?_
  refine RunL.nil ?_
  refine Ends.then ?_
  refine RunC.ret ?_
  refine Ends.leave (.inl rfl) (fun _ _ ok => results1 Tryd.results6 (Holds.tmp rfl) ok) (fun w1 hs => ?_)
  exact Ret.intro () trivial rfl (HSub.nil _) hs

theorem lw_DiagSums (ba : Option Addr) (A : Addr) (ca : Nat) (a : Dia) (bb : Option Addr) (B : Addr) (cb : Nat) (b : Dia) (i j : Int) (w : World) (hda : DiaAt w ba A a) (hdb : DiaAt w bb B b) (_ : In64 i) (_ : In64 j) : Gives Tryd.prog 6 #[diaV ba ca a, diaV bb cb b, iv i, iv j] w Nil (fun _ : Unit => True) (fun _ => .bool true) (fun _ => []) := by
  by_cases hl : (20 < a.cross.length ∧ a.cross.length ≤ 200)
  · exact lw_DiagSums_biga ba ca a bb cb b i j w hl
  by_cases hm : (20 < b.cross.length ∧ b.cross.length ≤ 200)
  · exact lw_DiagSums_bigb ba ca a bb cb b i j w hl hm
  by_cases ha : SoundP a
  · by_cases hb : SoundP b
    · by_cases hca : checkI a = 0
      · by_cases hcb : checkI b = 0
        · by_cases hu : uniBad a b
          · exact lw_DiagSums_lim ba A ca a bb B cb b i j w hda hdb hl hm hca hcb hu
          by_cases hi : thereP a i
          · by_cases hj : thereP b j
            · by_cases hn : i < 0 ∨ j < 0
              · exact lw_DiagSums_neg ba A ca a bb B cb b i j w hda hdb hl hm hca hcb hu hi hj hn
              · have hi' : 0 ≤ i ∧ i < 2 * (a.cross.length : Int) := by rcases hi with k | k; exact k; exact absurd (show i < 0 ∨ j < 0 by omega) hn
                have hj' : 0 ≤ j ∧ j < 2 * (b.cross.length : Int) := by rcases hj with k | k; exact k; exact absurd (show i < 0 ∨ j < 0 by omega) hn
                exact lw_DiagSums_spl ba A ca a bb B cb b i j w hda hdb hl hm hca hcb hu hi'.1 hi'.2 hj'.1 hj'.2
            · exact lw_DiagSums_arg2 ba A ca a bb B cb b i j w hda hdb hl hm hca hcb hu hi hj
          · exact lw_DiagSums_arg1 ba A ca a bb B cb b i j w hda hdb hl hm hca hcb hu hi
        · exact lw_DiagSums_p2 ba A ca a bb B cb b i j w hda hdb hl hm ha hb hca (checkI_unplanar hb fun k => hcb (checkI_ok.2 ⟨hb, k⟩))
      · refine lw_DiagSums_p1 ba A ca a bb B cb b i j w hda hdb hl hm ha hb (checkI_unplanar ha fun k => hca (checkI_ok.2 ⟨ha, k⟩)) fun h => ?_
        by_cases hcb : checkI b = 0
        · omega
        · have := checkI_unplanar hb fun k => hcb (checkI_ok.2 ⟨hb, k⟩)
          omega
    · by_cases hca : checkI a = 0
      · exact lw_DiagSums_d2a ba A ca a bb B cb b i j w hda hdb hl hm ha hb hca (checkI_unsound (Bool.eq_false_iff.2 fun k => hb (soundB_iff.1 k)))
      · exact lw_DiagSums_d2b ba A ca a bb B cb b i j w hda hdb hl hm ha hb (checkI_unplanar ha fun k => hca (checkI_ok.2 ⟨ha, k⟩)) (checkI_unsound (Bool.eq_false_iff.2 fun k => hb (soundB_iff.1 k)))
  · exact lw_DiagSums_d1 ba A ca a bb B cb b i j w hda hdb hl hm ha (checkI_unsound (Bool.eq_false_iff.2 fun k => ha (soundB_iff.1 k)))

end Go.Proofs
