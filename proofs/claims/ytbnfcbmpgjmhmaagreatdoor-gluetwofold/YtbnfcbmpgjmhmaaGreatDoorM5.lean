/- The chapter's examples. -/
import Derived.Test.YtbnfcbmpgjmhmaaGreatDoorM4
import Derived.Test.YtbnfcbmpgjmhmaaGreatDoorProg
import Derived.KernelRfl
import Derived.Test.YtbnfcbmpgjmhmaaGreatDoorM1
import Derived.Test.YtbnfcbmpgjmhmaaGreatDoorRows
import Derived.LaidMore
import Derived.Stop.Joined
import Derived.Carry
import Derived.Lay
namespace Go.Proofs
open Go Go.V
set_option maxRecDepth 20000
theorem gl_Orient_one (base : Option Addr) (A : Addr) (cap : Nat) (w : World) (hg : GluAt w base A gOne) : Gives Tryz.prog 15 #[gluV base cap gOne] w Nil (fun _ : Nat => True) (fun b => .tuple #[.slice (some ⟨b, 0, none⟩) 1 1, .bool true, iv 0]) (fun b => [HL.own 3 1 (.slice (some ⟨b, 0, none⟩) 1 1) 1 (ints [1])]) := by
  have h := gl_Orient base A cap gOne w hg one_ok
  have e1 : ∀ b, oriV gOne b = .tuple #[.slice (some ⟨b, 0, none⟩) 1 1, .bool true, iv 0] := fun b => by rw [oriV, one_ori]; rfl
  have e2 : ∀ b, oriH gOne b = [HL.own 3 1 (.slice (some ⟨b, 0, none⟩) 1 1) 1 (ints [1])] := fun b => by rw [oriH, one_ori]; rfl
  simp only [e1, e2] at h
  exact h
theorem gl_Text_one (g : Glu) (t : ByteArray) (base : Option Addr) (A : Addr) (cap : Nat) (w : World) (hg : GluAt w base A g) (hok : okG g = true) (ht : textG g = t) (he : Env w) : Gives Tryz.prog 26 #[gluV base cap g] w Nil (fun _ : Unit => True) (fun _ => .tuple #[.string t, iv 0]) (fun _ => []) := by
  subst ht; exact gl_Text base A cap g w hg hok he

theorem lw_sane (w : World) (he : Env w) : Gives Tryz.prog 9 #[] w Nil (fun _ : Unit => True) (fun _ => .bool true) (fun _ => []) := by
  refine fn_of_run (S := Nil) (args := []) (n := 150) (L := []) Tryz.func9 rfl Tryz.ntmps9 (Nat.le_of_ble_eq_true rfl) (Sym.nil _ _) ?_
  change RunC _ _ _ [] _
  refine RunC.seq ?_
  refine RunC.region ?_
  refine RunL.still rfl rfl rfl (Still.assign rfl rfl) ?_
  refine RunL.nil ?_
  refine Ends.then ?_
  refine RunC.seq ?_
  refine RunC.region ?_
  refine RunL.grows rfl rfl rfl (Grows.call (vs := #[]) rfl rfl Tryz.call39 (fun w hs => lw_One w)) (fun b16 _ => ?_)
  refine RunL.grows rfl rfl rfl (Grows.alloc rfl Tryz.zeroValue24) (fun b1 _ => ?_)
  refine RunL.does0 rfl rfl (Does.store rfl rfl rfl (i := 0) rfl Tryz.sizeOf24 rfl (rfl) rfl) (fun _ _ => ?_)
  refine RunL.conv (fun _ hs => hs.re 0 rfl (show _ = HL.obj b1 (.cells #[.slice (some ⟨b16, 0, none⟩) 1 1] 24 (0, 0)) from rfl)) ?_
  refine RunL.nil ?_
  refine Ends.then ?_
  refine RunC.seq ?_
  refine RunC.region ?_
  refine RunL.still rfl rfl rfl (Still.build_1 (fun x0_0 => .agg #[x0_0, .int .i64 0, .int .i64 0, .int .i64 0, .int .i64 0]) rfl rfl (fun _ => by kernel_rfl)) ?_
  refine RunL.still rfl rfl rfl (Still.build_1 (fun x0_0 => .agg #[x0_0, .int .i64 0, .int .i64 0, .int .i64 0, .int .i64 0]) rfl rfl (fun _ => by kernel_rfl)) ?_
  refine RunL.still rfl rfl rfl (Still.build_1 (fun x0_0 => .agg #[x0_0, .int .i64 0, .int .i64 0, .int .i64 0, .int .i64 0]) rfl rfl (fun _ => by kernel_rfl)) ?_
  refine RunL.still rfl rfl rfl (Still.build_1 (fun x0_0 => .agg #[x0_0, .int .i64 0, .int .i64 0, .int .i64 0, .int .i64 0]) rfl rfl (fun _ => by kernel_rfl)) ?_
  refine RunL.still rfl rfl rfl (Still.build_5_5_5_5 (fun x0_0 x0_1 x0_2 x0_3 x0_4 x1_0 x1_1 x1_2 x1_3 x1_4 x2_0 x2_1 x2_2 x2_3 x2_4 x3_0 x3_1 x3_2 x3_3 x3_4 => .agg #[x0_0, x0_1, x0_2, x0_3, x0_4, x1_0, x1_1, x1_2, x1_3, x1_4, x2_0, x2_1, x2_2, x2_3, x2_4, x3_0, x3_1, x3_2, x3_3, x3_4]) rfl rfl rfl rfl rfl (fun _ => by kernel_rfl)) ?_
  refine RunL.grows rfl rfl rfl (Grows.slice1 rfl rfl Tryz.underlying22 Tryz.sizeOf35 rfl Tryz.zeroValue35 (by decide)) (fun b22 _ => ?_)
  refine RunL.conv (fun _ hs => Sym.obj_own (k := 20) (n := 1) hs rfl (by omega)) ?_
  refine RunL.still rfl rfl rfl (Still.build_1 (fun x0_0 => .agg #[x0_0]) rfl rfl (fun _ => by kernel_rfl)) ?_
  refine RunL.grows rfl rfl rfl (Grows.alloc rfl Tryz.zeroValue24) (fun b2 _ => ?_)
  refine RunL.does0 rfl rfl (Does.store rfl rfl rfl (i := 0) rfl Tryz.sizeOf24 rfl (rfl) rfl) (fun _ _ => ?_)
  refine RunL.conv (fun _ hs => hs.re 0 rfl (show _ = HL.obj b2 (.cells #[.slice (some ⟨b22, 0, none⟩) 1 1] 24 (0, 0)) from rfl)) ?_
  refine RunL.nil ?_
  refine Ends.then ?_
  refine RunC.seq ?_
  refine RunC.region ?_
  refine RunL.grows rfl rfl rfl (Grows.call (vs := #[]) rfl rfl Tryz.call40 (fun w hs => rf_Identity w)) (fun _ _ => ?_)
  refine RunL.still rfl rfl rfl (Still.build_4 (fun x0_0 x0_1 x0_2 x0_3 => .agg #[.int .i64 0, x0_0, x0_1, x0_2, x0_3]) rfl rfl (fun _ => by kernel_rfl)) ?_
  refine RunL.still rfl rfl rfl (Still.build_1 (fun x0_0 => .agg #[x0_0, .int .i64 0, .int .i64 0, .int .i64 0, .int .i64 0]) rfl rfl (fun _ => by kernel_rfl)) ?_
  refine RunL.still rfl rfl rfl (Still.build_1 (fun x0_0 => .agg #[x0_0, .int .i64 0, .int .i64 0, .int .i64 0, .int .i64 0]) rfl rfl (fun _ => by kernel_rfl)) ?_
  refine RunL.still rfl rfl rfl (Still.build_1 (fun x0_0 => .agg #[x0_0, .int .i64 0, .int .i64 0, .int .i64 0, .int .i64 0]) rfl rfl (fun _ => by kernel_rfl)) ?_
  refine RunL.still rfl rfl rfl (Still.build_5_5_5_5 (fun x0_0 x0_1 x0_2 x0_3 x0_4 x1_0 x1_1 x1_2 x1_3 x1_4 x2_0 x2_1 x2_2 x2_3 x2_4 x3_0 x3_1 x3_2 x3_3 x3_4 => .agg #[x0_0, x0_1, x0_2, x0_3, x0_4, x1_0, x1_1, x1_2, x1_3, x1_4, x2_0, x2_1, x2_2, x2_3, x2_4, x3_0, x3_1, x3_2, x3_3, x3_4]) rfl rfl rfl rfl rfl (fun _ => by kernel_rfl)) ?_
  refine RunL.grows rfl rfl rfl (Grows.slice1 rfl rfl Tryz.underlying22 Tryz.sizeOf35 rfl Tryz.zeroValue35 (by decide)) (fun b30 _ => ?_)
  refine RunL.conv (fun _ hs => Sym.obj_own (k := 20) (n := 1) hs rfl (by omega)) ?_
  refine RunL.still rfl rfl rfl (Still.build_1 (fun x0_0 => .agg #[x0_0]) rfl rfl (fun _ => by kernel_rfl)) ?_
  refine RunL.grows rfl rfl rfl (Grows.alloc rfl Tryz.zeroValue24) (fun b3 _ => ?_)
  refine RunL.does0 rfl rfl (Does.store rfl rfl rfl (i := 0) rfl Tryz.sizeOf24 rfl (rfl) rfl) (fun _ _ => ?_)
  refine RunL.conv (fun _ hs => hs.re 0 rfl (show _ = HL.obj b3 (.cells #[.slice (some ⟨b30, 0, none⟩) 1 1] 24 (0, 0)) from rfl)) ?_
  refine RunL.nil ?_
  refine Ends.then ?_
  refine RunC.seq ?_
  refine RunC.region ?_
  refine RunL.still rfl rfl rfl (Still.loads rfl rfl Tryz.isAgg24 Tryz.sizeOf24 (vs := [_]) rfl (fun _ hs => cells_nth (hs.at (i := 4) rfl) ⟨rfl, trivial⟩)) ?_
  refine RunL.grows rfl rfl rfl (Grows.call (vs := #[_]) rfl rfl Tryz.call26 (fun w hs => gl_Text_one gOne txtOne (some ⟨b16, 0, none⟩) _ 1 w (GluAt.of_ownG (q := (some ⟨b16, 0, none⟩, 1)) (g := gOne) (by decide +kernel) (hs.at (i := 5) rfl)) one_ok one_text (he.sym hs))) (fun _ _ => ?_)
  refine RunL.still rfl rfl rfl (Still.move rfl rfl) ?_
  refine RunL.still rfl rfl rfl (Still.extractN rfl rfl rfl) ?_
  refine RunL.still rfl rfl rfl (Still.extractN rfl rfl rfl) ?_
  refine RunL.still rfl rfl rfl (Still.assign rfl rfl) ?_
  refine RunL.still rfl rfl rfl (Still.assign rfl rfl) ?_
  refine RunL.nil ?_
  refine Ends.then ?_
  refine RunC.seq ?_
  refine RunC.region ?_
  refine RunL.still rfl rfl rfl (Still.loads rfl rfl Tryz.isAgg24 Tryz.sizeOf24 (vs := [_]) rfl (fun _ hs => cells_nth (hs.at (i := 4) rfl) ⟨rfl, trivial⟩)) ?_
  refine RunL.grows rfl rfl rfl (Grows.call (vs := #[_]) rfl rfl Tryz.call15 (fun w hs => gl_Orient_one (some ⟨b16, 0, none⟩) _ 1 w (GluAt.of_ownG (q := (some ⟨b16, 0, none⟩, 1)) (g := gOne) (by decide +kernel) (hs.at (i := 5) rfl)))) (fun b39 _ => ?_)
  refine RunL.still rfl rfl rfl (Still.move rfl rfl) ?_
  refine RunL.still rfl rfl rfl (Still.extractN rfl rfl rfl) ?_
  refine RunL.still rfl rfl rfl (Still.extractN rfl rfl rfl) ?_
  refine RunL.still rfl rfl rfl (Still.extractN rfl rfl rfl) ?_
  refine RunL.still rfl rfl rfl (Still.assign rfl rfl) ?_
  refine RunL.still rfl rfl rfl (Still.assign rfl rfl) ?_
  refine RunL.still rfl rfl rfl (Still.assign rfl rfl) ?_
  refine RunL.nil ?_
  refine Ends.then ?_
  refine RunC.seq ?_
  refine RunC.region ?_
  refine RunL.still rfl rfl rfl (Still.loads rfl rfl Tryz.isAgg24 Tryz.sizeOf24 (vs := [_]) rfl (fun _ hs => cells_nth (hs.at (i := 5) rfl) ⟨rfl, trivial⟩)) ?_
  refine RunL.grows rfl rfl rfl (Grows.call (vs := #[_]) rfl rfl Tryz.call12 (fun w hs => gl_Twofold (some ⟨b16, 0, none⟩) _ 1 gOne w (GluAt.of_ownG (q := (some ⟨b16, 0, none⟩, 1)) (g := gOne) (by decide +kernel) (hs.at (i := 6) rfl)) one_ok (by decide))) (fun q hq => ?_)
  refine RunL.still rfl rfl rfl (Still.move rfl rfl) ?_
  refine RunL.still rfl rfl rfl (Still.extractN rfl rfl rfl) ?_
  refine RunL.still rfl rfl rfl (Still.extractN rfl rfl rfl) ?_
  refine RunL.grows rfl rfl rfl (Grows.alloc rfl Tryz.zeroValue24) (fun b9 _ => ?_)
  refine RunL.does0 rfl rfl (Does.store rfl rfl rfl (i := 0) rfl Tryz.sizeOf24 rfl (rfl) rfl) (fun _ _ => ?_)
  refine RunL.conv (fun _ hs => hs.re 0 rfl (show _ = HL.obj b9 (.cells #[.slice q.1 2 q.2] 24 (0, 0)) from rfl)) ?_
  refine RunL.still rfl rfl rfl (Still.assign rfl rfl) ?_
  refine RunL.nil ?_
  refine Ends.then ?_
  refine RunC.seq ?_
  refine RunC.region ?_
  refine RunL.still rfl rfl rfl (Still.loads rfl rfl Tryz.isAgg24 Tryz.sizeOf24 (vs := [_]) rfl (fun _ hs => cells_nth (hs.at (i := 5) rfl) ⟨rfl, trivial⟩)) ?_
  refine RunL.grows rfl rfl rfl (Grows.call (vs := #[_]) rfl rfl Tryz.call13 (fun w hs => gl_Double (some ⟨b22, 0, none⟩) _ 1 gFree w (GluAt.of_ownG (q := (some ⟨b22, 0, none⟩, 1)) (g := gFree) (by decide +kernel) (hs.at (i := 6) rfl)) free_ok (by decide))) (fun r hr => ?_)
  refine RunL.still rfl rfl rfl (Still.move rfl rfl) ?_
  refine RunL.still rfl rfl rfl (Still.extractN rfl rfl rfl) ?_
  refine RunL.still rfl rfl rfl (Still.extractN rfl rfl rfl) ?_
  refine RunL.grows rfl rfl rfl (Grows.alloc rfl Tryz.zeroValue24) (fun b11 _ => ?_)
  refine RunL.does0 rfl rfl (Does.store rfl rfl rfl (i := 0) rfl Tryz.sizeOf24 rfl (rfl) rfl) (fun _ _ => ?_)
  refine RunL.conv (fun _ hs => hs.re 0 rfl (show _ = HL.obj b11 (.cells #[.slice r.1 2 r.2] 24 (0, 0)) from rfl)) ?_
  refine RunL.still rfl rfl rfl (Still.assign rfl rfl) ?_
  refine RunL.nil ?_
  refine Ends.then ?_
  refine RunC.seq ?_
  refine RunC.seq ?_
  refine RunC.region ?_
  refine RunL.still rfl rfl rfl (Still.move rfl rfl) ?_
  refine RunL.still rfl rfl rfl (Still.neq rfl rfl rfl) ?_
  refine RunL.again (t := 54) (u := .bool false) rfl (rfl) ?_
  refine RunL.still rfl rfl rfl (Still.move rfl rfl) ?_
  refine RunL.still rfl rfl rfl (Still.move rfl rfl) ?_
  refine RunL.still rfl rfl rfl (Still.neq rfl rfl rfl) ?_
  refine RunL.again (t := 57) (u := .bool false) rfl (rfl) ?_
  refine RunL.still rfl rfl rfl (Still.pickF rfl rfl rfl) ?_
  refine RunL.still rfl rfl rfl (Still.move rfl rfl) ?_
  refine RunL.still rfl rfl rfl (Still.move rfl rfl) ?_
  refine RunL.still rfl rfl rfl (Still.neq rfl rfl rfl) ?_
  refine RunL.again (t := 61) (u := .bool false) rfl (rfl) ?_
  refine RunL.still rfl rfl rfl (Still.pickF rfl rfl rfl) ?_
  refine RunL.still rfl rfl rfl (Still.move rfl rfl) ?_
  refine RunL.still rfl rfl rfl (Still.move rfl rfl) ?_
  refine RunL.still rfl rfl rfl (Still.neq rfl rfl rfl) ?_
  refine RunL.again (t := 65) (u := .bool false) rfl (rfl) ?_
  refine RunL.still rfl rfl rfl (Still.pickF rfl rfl rfl) ?_
  refine RunL.still rfl rfl rfl (Still.move rfl rfl) ?_
  refine RunL.still rfl rfl rfl (Still.move rfl rfl) ?_
  refine RunL.still rfl rfl rfl (Still.neqStrD rfl rfl rfl) ?_
  refine RunL.again (t := 69) (u := .bool false) rfl (by rfl) ?_
  refine RunL.still rfl rfl rfl (Still.pickF rfl rfl rfl) ?_
  refine RunL.still rfl rfl rfl (Still.move rfl rfl) ?_
  refine RunL.still rfl rfl rfl (Still.move rfl rfl) ?_
  refine RunL.still rfl rfl rfl (Still.not rfl rfl) ?_
  refine RunL.again (t := 73) (u := .bool false) rfl (rfl) ?_
  refine RunL.still rfl rfl rfl (Still.pickF rfl rfl rfl) ?_
  refine RunL.still rfl rfl rfl (Still.move rfl rfl) ?_
  refine RunL.still rfl rfl rfl (Still.move rfl rfl) ?_
  refine RunL.grows rfl rfl rfl (Grows.slice1 rfl rfl Tryz.underlying36 Tryz.sizeOf3 rfl Tryz.zeroValue3 (by decide)) (fun b77 _ => ?_)
  refine RunL.conv (fun _ hs => Sym.obj_own (k := 1) (n := 1) hs rfl (by omega)) ?_
  refine RunL.grows rfl rfl rfl (Grows.call (vs := #[_, _]) rfl rfl Tryz.call31 (fun w hs => rf_SameInts (.slice (some ⟨b39, 0, none⟩) 1 1) _ [1] [1] w (own_shape (hs.own (i := 5) rfl)) (own_all (hs.own (i := 5) rfl)) (by decide) (own_shape (hs.own (i := 0) rfl)) (own_all (hs.own (i := 0) rfl)) (by decide))) (fun _ _ => ?_)
  refine RunL.still rfl rfl rfl (Still.not rfl rfl) ?_
  refine RunL.again (t := 79) (u := .bool false) rfl (by rfl) ?_
  refine RunL.still rfl rfl rfl (Still.pickF rfl rfl rfl) ?_
  refine RunL.nil ?_
  refine Ends.then ?_
  refine RunC.cond_false rfl ?_
  refine RunC.skip ?_
  refine Ends.then ?_
  refine RunC.seq ?_
  refine RunC.region ?_
  refine RunL.still rfl rfl rfl (Still.loads rfl rfl Tryz.isAgg24 Tryz.sizeOf24 (vs := [_]) rfl (fun _ hs => cells_nth (hs.at (i := 3) rfl) ⟨rfl, trivial⟩)) ?_
  refine RunL.grows rfl rfl rfl (Grows.call (vs := #[_]) rfl rfl Tryz.call26 (fun w hs => gl_Text_one (twoG gOne) txtTwo q.1 _ q.2 w (GluAt.of_ownG (q := q) (g := twoG gOne) (by decide +kernel) (hs.at (i := 4) rfl)) two_ok two_text (he.sym hs))) (fun _ _ => ?_)
  refine RunL.still rfl rfl rfl (Still.move rfl rfl) ?_
  refine RunL.still rfl rfl rfl (Still.extractN rfl rfl rfl) ?_
  refine RunL.still rfl rfl rfl (Still.extractN rfl rfl rfl) ?_
  refine RunL.still rfl rfl rfl (Still.assign rfl rfl) ?_
  refine RunL.still rfl rfl rfl (Still.assign rfl rfl) ?_
  refine RunL.nil ?_
  refine Ends.then ?_
  refine RunC.seq ?_
  refine RunC.region ?_
  refine RunL.still rfl rfl rfl (Still.loads rfl rfl Tryz.isAgg24 Tryz.sizeOf24 (vs := [_]) rfl (fun _ hs => cells_nth (hs.at (i := 1) rfl) ⟨rfl, trivial⟩)) ?_
  refine RunL.grows rfl rfl rfl (Grows.call (vs := #[_]) rfl rfl Tryz.call26 (fun w hs => gl_Text_one (dblG gFree) txtDbl r.1 _ r.2 w (GluAt.of_ownG (q := r) (g := dblG gFree) (by decide +kernel) (hs.at (i := 2) rfl)) dbl_ok dbl_text (he.sym hs))) (fun _ _ => ?_)
  refine RunL.still rfl rfl rfl (Still.move rfl rfl) ?_
  refine RunL.still rfl rfl rfl (Still.extractN rfl rfl rfl) ?_
  refine RunL.still rfl rfl rfl (Still.extractN rfl rfl rfl) ?_
  refine RunL.still rfl rfl rfl (Still.assign rfl rfl) ?_
  refine RunL.still rfl rfl rfl (Still.assign rfl rfl) ?_
  refine RunL.nil ?_
  refine Ends.then ?_
  refine RunC.seq ?_
  refine RunC.region ?_
  refine RunL.still rfl rfl rfl (Still.move rfl rfl) ?_
  refine RunL.grows rfl rfl rfl (Grows.call (vs := #[_]) rfl rfl Tryz.call29 (fun w hs => gl_Parse_one w (he.sym hs))) (fun p hp => ?_)
  refine RunL.still rfl rfl rfl (Still.move rfl rfl) ?_
  refine RunL.still rfl rfl rfl (Still.extractN rfl rfl rfl) ?_
  refine RunL.still rfl rfl rfl (Still.extractN rfl rfl rfl) ?_
  refine RunL.grows rfl rfl rfl (Grows.alloc rfl Tryz.zeroValue24) (fun b15 _ => ?_)
  refine RunL.does0 rfl rfl (Does.store rfl rfl rfl (i := 0) rfl Tryz.sizeOf24 rfl (rfl) rfl) (fun _ _ => ?_)
  refine RunL.conv (fun _ hs => hs.re 0 rfl (show _ = HL.obj b15 (.cells #[.slice p.1 1 p.2] 24 (0, 0)) from rfl)) ?_
  refine RunL.still rfl rfl rfl (Still.assign rfl rfl) ?_
  refine RunL.nil ?_
  refine Ends.then ?_
  refine RunC.seq ?_
  refine RunC.region ?_
  refine RunL.still rfl rfl rfl (Still.move rfl rfl) ?_
  refine RunL.still rfl rfl rfl (Still.eql rfl rfl rfl) ?_
  refine RunL.again (t := 97) (u := .bool true) rfl (rfl) ?_
  refine RunL.still rfl rfl rfl (Still.move rfl rfl) ?_
  refine RunL.still rfl rfl rfl (Still.move rfl rfl) ?_
  refine RunL.still rfl rfl rfl (Still.eql rfl rfl rfl) ?_
  refine RunL.again (t := 100) (u := .bool true) rfl (rfl) ?_
  refine RunL.still rfl rfl rfl (Still.pickT rfl rfl rfl) ?_
  refine RunL.still rfl rfl rfl (Still.move rfl rfl) ?_
  refine RunL.still rfl rfl rfl (Still.move rfl rfl) ?_
  refine RunL.still rfl rfl rfl (Still.eql rfl rfl rfl) ?_
  refine RunL.again (t := 104) (u := .bool true) rfl (rfl) ?_
  refine RunL.still rfl rfl rfl (Still.pickT rfl rfl rfl) ?_
  refine RunL.still rfl rfl rfl (Still.move rfl rfl) ?_
  refine RunL.still rfl rfl rfl (Still.loads rfl rfl Tryz.isAgg24 Tryz.sizeOf24 (vs := [_]) rfl (fun _ hs => cells_nth (hs.at (i := 0) rfl) ⟨rfl, trivial⟩)) ?_
  refine RunL.still rfl rfl rfl (Still.loads rfl rfl Tryz.isAgg24 Tryz.sizeOf24 (vs := [_]) rfl (fun _ hs => cells_nth (hs.at (i := 12) rfl) ⟨rfl, trivial⟩)) ?_
  refine RunL.grows rfl rfl rfl (Grows.call (vs := #[_, _]) rfl rfl Tryz.call27 (fun w hs => gl_Same p.1 _ p.2 gOne (some ⟨b16, 0, none⟩) _ 1 gOne w (GluAt.of_ownG (q := p) (g := gOne) (by decide +kernel) (hs.at (i := 1) rfl)) (GluAt.of_ownG (q := (some ⟨b16, 0, none⟩, 1)) (g := gOne) (by decide +kernel) (hs.at (i := 13) rfl)))) (fun _ _ => ?_)
  refine RunL.again (t := 109) (u := .bool true) rfl (by rfl) ?_
  refine RunL.still rfl rfl rfl (Still.pickT rfl rfl rfl) ?_
  refine RunL.still rfl rfl rfl (Still.move rfl rfl) ?_
  refine RunL.still rfl rfl rfl (Still.move rfl rfl) ?_
  refine RunL.still rfl rfl rfl (Still.eqlStrD rfl rfl rfl) ?_
  refine RunL.again (t := 113) (u := .bool true) rfl (by rfl) ?_
  refine RunL.still rfl rfl rfl (Still.pickT rfl rfl rfl) ?_
  refine RunL.still rfl rfl rfl (Still.move rfl rfl) ?_
  refine RunL.still rfl rfl rfl (Still.move rfl rfl) ?_
  refine RunL.still rfl rfl rfl (Still.eqlStrD rfl rfl rfl) ?_
  refine RunL.again (t := 117) (u := .bool true) rfl (by rfl) ?_
  refine RunL.still rfl rfl rfl (Still.pickT rfl rfl rfl) ?_
  refine RunL.still rfl rfl rfl (Still.move rfl rfl) ?_
  refine RunL.still rfl rfl rfl (Still.loads rfl rfl Tryz.isAgg24 Tryz.sizeOf24 (vs := [_]) rfl (fun _ hs => cells_nth (hs.at (i := 8) rfl) ⟨rfl, trivial⟩)) ?_
  refine RunL.grows rfl rfl rfl (Grows.call (vs := #[_]) rfl rfl Tryz.call14 (fun w hs => gl_Check (some ⟨b30, 0, none⟩) _ 1 gBad w (GluAt.of_ownG (q := (some ⟨b30, 0, none⟩, 1)) (g := gBad) (by decide +kernel) (hs.at (i := 9) rfl)))) (fun _ _ => ?_)
  refine RunL.still rfl rfl rfl (Still.eql rfl rfl rfl) ?_
  refine RunL.again (t := 122) (u := .bool true) rfl (congrArg Value.bool (decide_eq_true (chkG_bad bad_no))) ?_
  refine RunL.still rfl rfl rfl (Still.pickT rfl rfl rfl) ?_
  refine RunL.still rfl rfl rfl (Still.move rfl rfl) ?_
  refine RunL.still rfl rfl rfl (Still.loads rfl rfl Tryz.isAgg24 Tryz.sizeOf24 (vs := [_]) rfl (fun _ hs => cells_nth (hs.at (i := 12) rfl) ⟨rfl, trivial⟩)) ?_
  refine RunL.grows rfl rfl rfl (Grows.call (vs := #[_]) rfl rfl Tryz.call14 (fun w hs => gl_Check (some ⟨b16, 0, none⟩) _ 1 gOne w (GluAt.of_ownG (q := (some ⟨b16, 0, none⟩, 1)) (g := gOne) (by decide +kernel) (hs.at (i := 13) rfl)))) (fun _ _ => ?_)
  refine RunL.still rfl rfl rfl (Still.eql rfl rfl rfl) ?_
  refine RunL.again (t := 127) (u := .bool true) rfl (congrArg Value.bool (decide_eq_true (chkG_ok one_ok))) ?_
  refine RunL.still rfl rfl rfl (Still.pickT rfl rfl rfl) ?_
  refine RunL.still rfl rfl rfl (Still.move rfl rfl) ?_
  refine RunL.still rfl rfl rfl (Still.build_1_1_1_1 (fun x0_0 x1_0 x2_0 x3_0 => .agg #[x0_0, x1_0, x2_0, x3_0]) rfl rfl rfl rfl rfl (fun _ => by kernel_rfl)) ?_
  refine RunL.still rfl rfl rfl (Still.build_1_1_1_1 (fun x0_0 x1_0 x2_0 x3_0 => .agg #[x0_0, x1_0, x2_0, x3_0]) rfl rfl rfl rfl rfl (fun _ => by kernel_rfl)) ?_
  refine RunL.grows rfl rfl rfl (Grows.call (vs := #[_, _]) rfl rfl Tryz.call41 (fun w hs => gl_Compose ⟨1, 2, 3, 0⟩ ⟨1, 0, 2, 3⟩ w)) (fun _ _ => ?_)
  refine RunL.still rfl rfl rfl (Still.build_1_1_1_1 (fun x0_0 x1_0 x2_0 x3_0 => .agg #[x0_0, x1_0, x2_0, x3_0]) rfl rfl rfl rfl rfl (fun _ => by kernel_rfl)) ?_
  refine RunL.still rfl rfl rfl (Still.eqlAgg rfl rfl rfl Tryz.eqGuardType32 (fun _ => eqP _ _ _ _ _ _ _ _ _ _)) ?_
  refine RunL.again (t := 134) (u := .bool true) rfl (congrArg Value.bool (by decide +kernel)) ?_
  refine RunL.still rfl rfl rfl (Still.pickT rfl rfl rfl) ?_
  refine RunL.still rfl rfl rfl (Still.move rfl rfl) ?_
  refine RunL.still rfl rfl rfl (Still.build_1_1_1_1 (fun x0_0 x1_0 x2_0 x3_0 => .agg #[x0_0, x1_0, x2_0, x3_0]) rfl rfl rfl rfl rfl (fun _ => by kernel_rfl)) ?_
  refine RunL.grows rfl rfl rfl (Grows.call (vs := #[_]) rfl rfl Tryz.call42 (fun w hs => gl_Sign ⟨1, 0, 2, 3⟩ w)) (fun _ _ => ?_)
  refine RunL.still rfl rfl rfl (Still.eql rfl rfl rfl) ?_
  refine RunL.again (t := 139) (u := .bool true) rfl (congrArg Value.bool (by decide +kernel)) ?_
  refine RunL.still rfl rfl rfl (Still.pickT rfl rfl rfl) ?_
  refine RunL.still rfl rfl rfl (Still.move rfl rfl) ?_
  refine RunL.still rfl rfl rfl (Still.build_1_1_1_1 (fun x0_0 x1_0 x2_0 x3_0 => .agg #[x0_0, x1_0, x2_0, x3_0]) rfl rfl rfl rfl rfl (fun _ => by kernel_rfl)) ?_
  refine RunL.grows rfl rfl rfl (Grows.call (vs := #[_]) rfl rfl Tryz.call42 (fun w hs => gl_Sign ⟨1, 2, 0, 3⟩ w)) (fun _ _ => ?_)
  refine RunL.still rfl rfl rfl (Still.eql rfl rfl rfl) ?_
  refine RunL.again (t := 144) (u := .bool true) rfl (congrArg Value.bool (by decide +kernel)) ?_
  refine RunL.still rfl rfl rfl (Still.pickT rfl rfl rfl) ?_
  refine RunL.still rfl rfl rfl (Still.move rfl rfl) ?_
  refine RunL.still rfl rfl rfl (Still.build_1_1_1_1 (fun x0_0 x1_0 x2_0 x3_0 => .agg #[x0_0, x1_0, x2_0, x3_0]) rfl rfl rfl rfl rfl (fun _ => by kernel_rfl)) ?_
  refine RunL.grows rfl rfl rfl (Grows.call (vs := #[_]) rfl rfl Tryz.call43 (fun w hs => gl_Valid ⟨1, 2, 0, 3⟩ w)) (fun _ _ => ?_)
  refine RunL.again (t := 148) (u := .bool true) rfl (congrArg Value.bool (by decide +kernel)) ?_
  refine RunL.still rfl rfl rfl (Still.pickT rfl rfl rfl) ?_
  refine RunL.still rfl rfl rfl (Still.assign rfl rfl) ?_
  refine RunL.nil ?_
  refine Ends.then ?_
  refine RunC.ret ?_
  refine Ends.leave (.inl rfl) (fun _ _ ok => results1 Tryz.results9 (Holds.tmp rfl) ok) (fun w1 hs => ?_)
  exact Ret.intro () trivial rfl (HSub.nil _) hs

end Go.Proofs
/- The statement GlueMakes: the walk. -/
namespace Go.Proofs
open Go Go.V
set_option maxRecDepth 20000
theorem lw_small1 (b : Nat) (b1 : Option Addr) (c1 n1 : Nat) (w : World) (hc : Cells w ⟨b, 0, none⟩ [.slice b1 n1 c1]) : Gives Tryz.prog 10 #[.slice (some ⟨b, 0, none⟩) 1 1] w Nil (fun _ : Unit => True) (fun _ => .bool (decide (n1 ≤ 12))) (fun _ => []) := by
  have h := lw_small b [n1] [.slice b1 n1 c1] w hc rfl (fun i n hi => by
    match i with
    | 0 => exact ⟨b1, c1, by simp at hi ⊢; omega⟩
    | i + 1 => simp at hi) (by simp)
  simpa using h

end Go.Proofs
/- A part of a gluing, renumbered by a map. -/
namespace Go.V
open Go
end Go.V
/- A part of a gluing: contracts of the program. -/
namespace Go.Proofs
open Go Go.V
set_option maxRecDepth 20000
end Go.Proofs
/- The statement GlueStays: the walk. -/
namespace Go.Proofs
open Go Go.V
set_option maxRecDepth 20000
end Go.Proofs
/- What the search for parts finds: the classes of what is glued together. -/
namespace Go.V
open Go
/-- What can be reached from a tetrahedron. -/
inductive Cn (g : Glu) : Nat → Nat → Prop
  | refl (t : Nat) : Cn g t t
  | step {t u f : Nat} : Cn g t u → u < g.length → f < 4 → 0 ≤ (fAt g u f).tet → Cn g t (fAt g u f).tet.toNat
theorem Cn.trans {g : Glu} {t u v : Nat} (h : Cn g t u) (h2 : Cn g u v) : Cn g t v := by
  induction h2 with
  | refl => exact h
  | step _ hu hf h0 ih => exact ih.step hu hf h0
theorem okG_hi {g : Glu} (hg : okG g = true) {u f : Nat} (hu : u < g.length) (hf : f < 4) (h0 : 0 ≤ (fAt g u f).tet) : (fAt g u f).tet.toNat < g.length := by
  have hF := okG_glued hg hu hf h0
  have := hF.hi; omega
theorem okG_back {g : Glu} (hg : okG g = true) {u f : Nat} (hu : u < g.length) (hf : f < 4) (h0 : 0 ≤ (fAt g u f).tet) : Cn g (fAt g u f).tet.toNat u := by
  have hF := okG_glued hg hu hf h0
  have hp := okP_at hF.ok f
  have hb := hF.back
  have h1 : 0 ≤ (fAt g (fAt g u f).tet.toNat ((fAt g u f).p.at f).toNat).tet := by rw [hb]; show 0 ≤ (u : Int); omega
  have := Cn.step (g := g) (Cn.refl (fAt g u f).tet.toNat) (okG_hi hg hu hf h0) (f := ((fAt g u f).p.at f).toNat) (by omega) h1
  rw [hb] at this
  simpa using this
theorem Cn.symm {g : Glu} (hg : okG g = true) {t u : Nat} (h : Cn g t u) : Cn g u t := by
  induction h with
  | refl => exact .refl _
  | step _ hu hf h0 ih => exact (okG_back hg hu hf h0).trans ih
theorem Cn.lt {g : Glu} (hg : okG g = true) {t u : Nat} (h : Cn g t u) (ht : t < g.length) : u < g.length := by
  induction h with
  | refl => exact ht
  | step _ hu hf h0 _ => exact okG_hi hg hu hf h0
/-- The search within a part. -/
structure PJ (g : Glu) (out0 : List Int) (t0 : Nat) (n : Int) (q : Nat) (s : BSt) : Prop where
  st : PSt g s
  lab : ∀ u ∈ s.2, s.1.getD u 0 = n ∧ Cn g t0 u
  same : ∀ v, v ∉ s.2 → s.1.getD v 0 = out0.getD v 0
  fresh : ∀ u ∈ s.2, out0.getD u 0 < 0
  done : ∀ j u f, 4 * j + f < q → s.2[j]? = some u → f < 4 → 0 ≤ (fAt g u f).tet → 0 ≤ s.1.getD (fAt g u f).tet.toNat 0
theorem pFace_J {g : Glu} {out0 : List Int} {t0 : Nat} {n : Int} (hn : 0 ≤ n) (hg : okG g = true) {i f u : Nat} {s : BSt} (h : PJ g out0 t0 n (4 * i + f) s) (hu : s.2[i]? = some u) (hf : f < 4) : PJ g out0 t0 n (4 * i + f + 1) (pFace g n u f s) := by
  have hum : u ∈ s.2 := List.mem_of_getElem? hu
  have huN := h.st.mem u hum
  by_cases hc : 0 ≤ (fAt g u f).tet ∧ s.1.getD (fAt g u f).tet.toNat 0 < 0
  · have hst := pFace_ok hn hg huN hf h.st
    rw [pFace_go hc.1 hc.2] at hst ⊢
    have hwN := okG_hi hg huN hf hc.1
    generalize hw : (fAt g u f).tet.toNat = w at hc hst hwN ⊢
    have hwn : w ∉ s.2 := fun hm => by have := (h.lab w hm).1; omega
    have hl : w < s.1.length := by rw [h.st.len]; exact hwN
    refine ⟨hst, fun v hv => ?_, fun v hv => ?_, fun v hv => ?_, fun j v f' hj hv hf' h0 => ?_⟩
    · rcases List.mem_append.1 hv with hv | hv
      · have : w ≠ v := fun e => hwn (e ▸ hv)
        show (s.1.set w n).getD v 0 = n ∧ _
        rw [getD_set_ne' this]; exact h.lab v hv
      · obtain rfl := List.mem_singleton.1 hv
        refine ⟨getD_set_self' hl, ?_⟩
        rw [← hw]; exact ((h.lab u hum).2).step huN hf hc.1
    · have : w ≠ v := fun e => hv (List.mem_append.2 (.inr (by simp [e])))
      show (s.1.set w n).getD v 0 = _
      rw [getD_set_ne' this]; exact h.same v (fun hm => hv (List.mem_append.2 (.inl hm)))
    · rcases List.mem_append.1 hv with hv | hv
      · exact h.fresh v hv
      · obtain rfl := List.mem_singleton.1 hv
        rw [← h.same v hwn]; exact hc.2
    · show 0 ≤ (s.1.set w n).getD _ 0
      by_cases e : w = (fAt g v f').tet.toNat
      · rw [← e, getD_set_self' hl]; exact hn
      · rw [getD_set_ne' e]
        have hil := (List.getElem?_eq_some_iff.1 hu).1
        have hv' : s.2[j]? = some v := by
          have hv2 : (s.2 ++ [w])[j]? = some v := hv
          rwa [List.getElem?_append_left (by omega)] at hv2
        rcases Nat.lt_or_ge (4 * j + f') (4 * i + f) with h1 | h1
        · exact h.done j v f' h1 hv' hf' h0
        · obtain ⟨rfl, rfl⟩ : j = i ∧ f' = f := by omega
          rw [hu] at hv'; cases hv'
          exact absurd hw.symm e
  · rw [pFace_no hc]
    refine ⟨h.st, h.lab, h.same, h.fresh, fun j v f' hj hv hf' h0 => ?_⟩
    rcases Nat.lt_or_ge (4 * j + f') (4 * i + f) with h1 | h1
    · exact h.done j v f' h1 hv hf' h0
    · obtain ⟨rfl, rfl⟩ : j = i ∧ f' = f := by omega
      rw [hu] at hv; cases hv
      omega
theorem pTo_J {g : Glu} {out0 : List Int} {t0 : Nat} {n : Int} (hn : 0 ≤ n) (hg : okG g = true) {i u : Nat} {s : BSt} (h : PJ g out0 t0 n (4 * i) s) (hu : s.2[i]? = some u) : ∀ f, f ≤ 4 → PJ g out0 t0 n (4 * i + f) (pTo g n u s f)
  | 0, _ => h
  | f + 1, hf => pFace_J hn hg (pTo_J hn hg h hu f (by omega)) (pTo_pre hu f) (by omega)
theorem pBfs_J {g : Glu} {out0 : List Int} {t0 : Nat} {n : Int} (hn : 0 ≤ n) (hg : okG g = true) : ∀ (k i : Nat) {s : BSt}, PJ g out0 t0 n (4 * i) s → i + k = g.length → ∃ q, 4 * (pBfs g n k i s).2.length ≤ q ∧ PJ g out0 t0 n q (pBfs g n k i s)
  | 0, i, s, h, hk => ⟨4 * i, by have := h.st.room; show 4 * s.2.length ≤ _; omega, h⟩
  | k + 1, i, s, h, hk => by
    by_cases hi : i < s.2.length
    · have hu := getD_nat hi
      rw [pBfs_step hu]
      exact pBfs_J hn hg k (i + 1) (pTo_J hn hg h hu 4 (Nat.le_refl 4)) (by omega)
    · rw [pBfs_done hi]
      exact ⟨4 * i, by omega, h⟩
theorem PJ.start {g : Glu} {out : List Int} {t : Nat} {n : Int} (hl : out.length = g.length) (ht : t < g.length) (hn : 0 ≤ n) (h : out.getD t 0 < 0) : PJ g out t n (4 * 0) (out.set t n, [t]) := by
  refine ⟨.start hl ht hn h, fun u hu => ?_, fun v hv => ?_, fun u hu => ?_, fun j u f hj => by omega⟩
  · obtain rfl := List.mem_singleton.1 hu
    exact ⟨getD_set_self' (by omega), .refl _⟩
  · exact getD_set_ne' (fun e => hv (by simp [e]))
  · obtain rfl := List.mem_singleton.1 hu; exact h
/-- What is known of the numbers given so far. -/
structure PA (g : Glu) (t : Nat) (s : List Int × Int) : Prop where
  len : s.1.length = g.length
  pos : 0 ≤ s.2
  vis : ∀ v, v < t → 0 ≤ s.1.getD v 0
  rng : ∀ v, v < g.length → s.1.getD v 0 < s.2
  edge : ∀ v f, v < g.length → f < 4 → 0 ≤ s.1.getD v 0 → 0 ≤ (fAt g v f).tet → s.1.getD (fAt g v f).tet.toNat 0 = s.1.getD v 0
  cls : ∀ u v, u < g.length → v < g.length → 0 ≤ s.1.getD u 0 → s.1.getD u 0 = s.1.getD v 0 → Cn g u v
  onto : ∀ k, 0 ≤ k → k < s.2 → ∃ v, v < g.length ∧ s.1.getD v 0 = k
theorem edge_back {g : Glu} (hg : okG g = true) {u f : Nat} (hu : u < g.length) (hf : f < 4) (h0 : 0 ≤ (fAt g u f).tet) : ∃ f', f' < 4 ∧ (fAt g (fAt g u f).tet.toNat f') = ⟨(u : Int), invP (fAt g u f).p⟩ := by
  have hF := okG_glued hg hu hf h0
  have hp := okP_at hF.ok f
  exact ⟨((fAt g u f).p.at f).toNat, by omega, hF.back⟩
theorem pAll_A {g : Glu} (hg : okG g = true) : ∀ t, t ≤ g.length → PA g t (pAll g t)
  | 0, _ => by
    have e : ∀ v, v < g.length → (List.replicate g.length (-1 : Int)).getD v 0 = -1 := fun v hv => by simp [List.getD_eq_getElem?_getD, hv]
    refine ⟨by simp [pAll], Int.le_refl 0, fun v hv => absurd hv (Nat.not_lt_zero _), fun v hv => ?_, fun v f hv hf h => ?_, fun u v hu hv h => ?_, fun k h0 h1 => ?_⟩
    · show (List.replicate g.length (-1 : Int)).getD v 0 < 0; rw [e v hv]; decide
    · have h : 0 ≤ (List.replicate g.length (-1 : Int)).getD v 0 := h
      rw [e v hv] at h; exact absurd h (by decide)
    · have h : 0 ≤ (List.replicate g.length (-1 : Int)).getD u 0 := h
      rw [e u hu] at h; exact absurd h (by decide)
    · have h1 : k < 0 := h1
      omega
  | t + 1, ht => by
    have ih := pAll_A hg t (by omega)
    by_cases hc : 0 ≤ (pAll g t).1.getD t 0
    · rw [pAll_keep hc]
      exact ⟨ih.len, ih.pos, fun v hv => by rcases Nat.lt_or_ge v t with h | h; exact ih.vis v h; obtain rfl : v = t := (by omega); exact hc, ih.rng, ih.edge, ih.cls, ih.onto⟩
    · rw [pAll_new hc]
      generalize hs0 : pAll g t = s0 at ih hc ⊢
      obtain ⟨out, n⟩ := s0
      have hlen : out.length = g.length := ih.len
      have hpos : 0 ≤ n := ih.pos
      have hc : out.getD t 0 < 0 := by have hc : ¬ 0 ≤ out.getD t 0 := hc; omega
      obtain ⟨q, hq, hJ⟩ := pBfs_J hpos hg g.length 0 (PJ.start hlen (by omega) hpos hc) (by omega)
      show PA g (t + 1) ((pBfs g n g.length 0 (out.set t n, [t])).1, n + 1)
      have htm : t ∈ (pBfs g n g.length 0 (out.set t n, [t])).2 := by
        by_cases h : t ∈ (pBfs g n g.length 0 (out.set t n, [t])).2
        · exact h
        · exfalso
          have key : ∀ (k i : Nat) (s : BSt), t ∈ s.2 → t ∈ (pBfs g n k i s).2 := by
            intro k
            induction k with
            | zero => exact fun i s hs => hs
            | succ k ih2 =>
              intro i s hs
              rw [pBfs]
              split
              · refine ih2 _ _ ?_
                obtain ⟨j, hj⟩ := List.getElem?_of_mem hs
                exact List.mem_of_getElem? (pTo_pre hj 4)
              · exact hs
          exact h (key _ _ _ (List.mem_singleton.2 rfl))
      generalize hr : pBfs g n g.length 0 (out.set t n, [t]) = r at hJ hq htm ⊢
      obtain ⟨o2, l⟩ := r
      have hlab : ∀ u ∈ l, o2.getD u 0 = n ∧ Cn g t u := hJ.lab
      have hsame : ∀ v, v ∉ l → o2.getD v 0 = out.getD v 0 := hJ.same
      have hfresh : ∀ u ∈ l, out.getD u 0 < 0 := hJ.fresh
      have hmem : ∀ u ∈ l, u < g.length := hJ.st.mem
      have holdE : ∀ v f, v < g.length → f < 4 → 0 ≤ out.getD v 0 → 0 ≤ (fAt g v f).tet → out.getD (fAt g v f).tet.toNat 0 = out.getD v 0 := ih.edge
      have hclosed : ∀ u f, u ∈ l → f < 4 → 0 ≤ (fAt g u f).tet → (fAt g u f).tet.toNat ∈ l := by
        intro u f hu hf h0
        by_cases hm : (fAt g u f).tet.toNat ∈ l
        · exact hm
        · exfalso
          obtain ⟨j, hj⟩ := List.getElem?_of_mem hu
          have hjl := (List.getElem?_eq_some_iff.1 hj).1
          have h1 : 0 ≤ o2.getD (fAt g u f).tet.toNat 0 := hJ.done j u f (by have hq : 4 * l.length ≤ q := hq; omega) hj hf h0
          rw [hsame _ hm] at h1
          obtain ⟨f', hf', hb⟩ := edge_back hg (hmem u hu) hf h0
          have h2 := holdE (fAt g u f).tet.toNat f' (okG_hi hg (hmem u hu) hf h0) hf' h1 (by rw [hb]; show 0 ≤ (u : Int); omega)
          rw [hb] at h2
          have h2 : out.getD u 0 = out.getD (fAt g u f).tet.toNat 0 := by simpa using h2
          have := hfresh u hu
          omega
      refine ⟨hJ.st.len, by show 0 ≤ n + 1; omega, fun v hv => ?_, fun v hv => ?_, fun v f hv hf h h0 => ?_, fun u v hu hv h e => ?_, fun k h0 h1 => ?_⟩
      · show 0 ≤ o2.getD v 0
        by_cases hm : v ∈ l
        · rw [(hlab v hm).1]; exact hpos
        · rw [hsame v hm]
          rcases Nat.lt_or_ge v t with h | h
          · exact ih.vis v h
          · obtain rfl : v = t := by omega
            exact absurd htm hm
      · show o2.getD v 0 < n + 1
        by_cases hm : v ∈ l
        · rw [(hlab v hm).1]; omega
        · rw [hsame v hm]; have : out.getD v 0 < n := ih.rng v hv; omega
      · show o2.getD (fAt g v f).tet.toNat 0 = o2.getD v 0
        have h : 0 ≤ o2.getD v 0 := h
        by_cases hm : v ∈ l
        · rw [(hlab v hm).1, (hlab _ (hclosed v f hm hf h0)).1]
        · rw [hsame v hm] at h ⊢
          have e := holdE v f hv hf h h0
          by_cases hm2 : (fAt g v f).tet.toNat ∈ l
          · have := hfresh _ hm2; omega
          · rw [hsame _ hm2, e]
      · have h : 0 ≤ o2.getD u 0 := h
        have e : o2.getD u 0 = o2.getD v 0 := e
        by_cases hm : u ∈ l <;> by_cases hm2 : v ∈ l
        · exact ((hlab u hm).2.symm hg).trans (hlab v hm2).2
        · rw [(hlab u hm).1, hsame v hm2] at e
          have : out.getD v 0 < n := ih.rng v hv
          omega
        · rw [(hlab v hm2).1, hsame u hm] at e
          have : out.getD u 0 < n := ih.rng u hu
          omega
        · rw [hsame u hm] at h e
          rw [hsame v hm2] at e
          exact ih.cls u v hu hv h e
      · have h1 : k < n + 1 := h1
        by_cases e : k = n
        · subst e; exact ⟨t, by omega, (hlab t htm).1⟩
        · obtain ⟨v, hv, hvk⟩ := ih.onto k h0 (by show k < n; omega)
          have hvk : out.getD v 0 = k := hvk
          have : v ∉ l := fun hm => by have := hfresh v hm; omega
          exact ⟨v, hv, by show o2.getD v 0 = k; rw [hsame v this, hvk]⟩
/-- The parts are the classes, numbered from 0 on. -/
theorem parts_A {g : Glu} (hg : okG g = true) : PA g g.length (partsOf g, partsN g) := pAll_A hg g.length (Nat.le_refl _)
theorem parts_len {g : Glu} (hg : okG g = true) : (partsOf g).length = g.length := (parts_A hg).len
theorem parts_rng {g : Glu} (hg : okG g = true) {t : Nat} (ht : t < g.length) : 0 ≤ (partsOf g).getD t 0 ∧ (partsOf g).getD t 0 < partsN g := ⟨(parts_A hg).vis t ht, (parts_A hg).rng t ht⟩
theorem parts_iff {g : Glu} (hg : okG g = true) {t u : Nat} (ht : t < g.length) (hu : u < g.length) : (partsOf g).getD t 0 = (partsOf g).getD u 0 ↔ Cn g t u := by
  constructor
  · exact (parts_A hg).cls t u ht hu (parts_rng hg ht).1
  · intro h
    induction h with
    | refl => rfl
    | step h hu2 hf h0 ih =>
      rw [ih hu2]
      exact ((parts_A hg).edge _ _ hu2 hf (parts_rng hg hu2).1 h0).symm
end Go.V
/- Orientations: what the search finds. -/
namespace Go.V
open Go
/-- An orientation of a gluing. -/
structure Ori (g : Glu) (o : Nat → Int) : Prop where
  one : ∀ t, t < g.length → o t = 1 ∨ o t = -1
  glued : ∀ t f, t < g.length → f < 4 → 0 ≤ (fAt g t f).tet → o (fAt g t f).tet.toNat = -sgnP (fAt g t f).p * o t
structure OJ (g : Glu) (out0 : List Int) (q : Nat) (s : BSt) : Prop where
  st : OSt g s
  same : ∀ v, v ∉ s.2 → s.1.getD v 0 = out0.getD v 0
  fresh : ∀ u ∈ s.2, out0.getD u 0 = 0
  done : ∀ j u f, 4 * j + f < q → s.2[j]? = some u → f < 4 → 0 ≤ (fAt g u f).tet → s.1.getD (fAt g u f).tet.toNat 0 = -sgnP (fAt g u f).p * s.1.getD u 0
theorem sgn_mul_ne {p : P4} {x : Int} (h : x ≠ 0) : -sgnP p * x ≠ 0 := by
  rcases sgnP_one p with e | e <;> rw [e] <;> omega
theorem oFace_J {g : Glu} {out0 : List Int} (hg : okG g = true) {i f u : Nat} {s s' : BSt} (h : OJ g out0 (4 * i + f) s) (hu : s.2[i]? = some u) (hf : f < 4) (he : oFace g u f s = some s') : OJ g out0 (4 * i + f + 1) s' := by
  have hum : u ∈ s.2 := List.mem_of_getElem? hu
  have huN := h.st.mem u hum
  have hu0 := h.st.set u hum
  have hst := (oFace_ok hg huN hf h.st hu0 he).1
  by_cases h0 : (fAt g u f).tet < 0
  · rw [oFace_free h0] at he
    cases he
    refine ⟨h.st, h.same, h.fresh, fun j v f' hj hv hf' h1 => ?_⟩
    rcases Nat.lt_or_ge (4 * j + f') (4 * i + f) with h2 | h2
    · exact h.done j v f' h2 hv hf' h1
    · obtain ⟨rfl, rfl⟩ : j = i ∧ f' = f := by omega
      rw [hu] at hv; cases hv; omega
  · have hwN := okG_hi hg huN hf (by omega)
    by_cases hz : s.1.getD (fAt g u f).tet.toNat 0 = 0
    · rw [oFace_new h0 hz] at he
      cases he
      generalize hw : (fAt g u f).tet.toNat = w at hz hst hwN ⊢
      have hwn : w ∉ s.2 := fun hm => h.st.set w hm hz
      have hl : w < s.1.length := by rw [h.st.len]; exact hwN
      have huw : w ≠ u := fun e => hu0 (e ▸ hz)
      refine ⟨hst, fun v hv => ?_, fun v hv => ?_, fun j v f' hj hv hf' h1 => ?_⟩
      · have : w ≠ v := fun e => hv (List.mem_append.2 (.inr (by simp [e])))
        show (s.1.set w _).getD v 0 = _
        rw [getD_set_ne' this]; exact h.same v (fun hm => hv (List.mem_append.2 (.inl hm)))
      · rcases List.mem_append.1 hv with hv | hv
        · exact h.fresh v hv
        · obtain rfl := List.mem_singleton.1 hv
          rw [← h.same v hwn]; exact hz
      · have hil := (List.getElem?_eq_some_iff.1 hu).1
        have hv' : s.2[j]? = some v := by
          have hv2 : (s.2 ++ [w])[j]? = some v := hv
          rwa [List.getElem?_append_left (by omega)] at hv2
        have hv0 := h.st.set v (List.mem_of_getElem? hv')
        have hvw : w ≠ v := fun e => hv0 (e ▸ hz)
        show (s.1.set w _).getD _ 0 = _ * (s.1.set w _).getD v 0
        rw [getD_set_ne' hvw]
        rcases Nat.lt_or_ge (4 * j + f') (4 * i + f) with h2 | h2
        · have hd := h.done j v f' h2 hv' hf' h1
          have : w ≠ (fAt g v f').tet.toNat := fun e => by
            rw [← e, hz] at hd
            exact sgn_mul_ne hv0 hd.symm
          rw [getD_set_ne' this, hd]
        · obtain ⟨rfl, rfl⟩ : j = i ∧ f' = f := by omega
          rw [hu] at hv'; cases hv'
          rw [hw, getD_set_self' hl]
    · by_cases hs : s.1.getD (fAt g u f).tet.toNat 0 = -sgnP (fAt g u f).p * s.1.getD u 0
      · rw [oFace_same h0 hz hs] at he
        cases he
        refine ⟨h.st, h.same, h.fresh, fun j v f' hj hv hf' h1 => ?_⟩
        rcases Nat.lt_or_ge (4 * j + f') (4 * i + f) with h2 | h2
        · exact h.done j v f' h2 hv hf' h1
        · obtain ⟨rfl, rfl⟩ : j = i ∧ f' = f := by omega
          rw [hu] at hv; cases hv; exact hs
      · rw [oFace_bad h0 hz hs] at he; cases he
theorem oTo_J {g : Glu} {out0 : List Int} (hg : okG g = true) {i u : Nat} {s : BSt} (h : OJ g out0 (4 * i) s) (hu : s.2[i]? = some u) : ∀ f, f ≤ 4 → ∀ {s'}, oTo g u s f = some s' → OJ g out0 (4 * i + f) s' ∧ s'.2[i]? = some u
  | 0, _, s', he => by cases he; exact ⟨h, hu⟩
  | f + 1, hf, s', he => by
    rw [oTo] at he
    obtain ⟨s1, h1, h2⟩ := Option.bind_eq_some_iff.1 he
    obtain ⟨k1, k2⟩ := oTo_J hg h hu f (by omega) h1
    exact ⟨oFace_J hg k1 k2 (by omega) h2, oFace_pre k2 h2⟩
theorem oBfs_J {g : Glu} {out0 : List Int} (hg : okG g = true) : ∀ (k i : Nat) {s s' : BSt}, OJ g out0 (4 * i) s → i + k = g.length → oBfs g k i s = some s' → ∃ q, 4 * s'.2.length ≤ q ∧ OJ g out0 q s'
  | 0, i, s, s', h, hk, he => by cases he; exact ⟨4 * i, by have := h.st.room; omega, h⟩
  | k + 1, i, s, s', h, hk, he => by
    by_cases hi : i < s.2.length
    · have hu := getD_nat hi
      rw [oBfs_step hu] at he
      obtain ⟨s1, h1, h2⟩ := Option.bind_eq_some_iff.1 he
      exact oBfs_J hg k (i + 1) (oTo_J hg h hu 4 (Nat.le_refl 4) h1).1 (by omega) h2
    · rw [oBfs_done hi] at he
      cases he; exact ⟨4 * i, by omega, h⟩
theorem OJ.start {g : Glu} {out : List Int} {t : Nat} (h : OAll g out) (ht : t < g.length) (h0 : out.getD t 0 = 0) : OJ g out (4 * 0) (out.set t 1, [t]) :=
  ⟨.start h ht h0, fun v hv => getD_set_ne' (fun e => hv (by simp [e])), fun u hu => by obtain rfl := List.mem_singleton.1 hu; exact h0, fun j u f hj => by omega⟩
/-- The values given so far are those of an orientation. -/
structure OC (g : Glu) (t : Nat) (out : List Int) : Prop where
  all : OAll g out
  vis : ∀ v, v < t → out.getD v 0 ≠ 0
  edge : ∀ v f, v < g.length → f < 4 → out.getD v 0 ≠ 0 → 0 ≤ (fAt g v f).tet → out.getD (fAt g v f).tet.toNat 0 = -sgnP (fAt g v f).p * out.getD v 0
theorem oBfs_mem {g : Glu} {t : Nat} : ∀ (k i : Nat) {s s' : BSt}, t ∈ s.2 → oBfs g k i s = some s' → t ∈ s'.2
  | 0, _, _, _, hs, he => by cases he; exact hs
  | k + 1, i, s, s', hs, he => by
    rw [oBfs] at he
    split at he
    · obtain ⟨s1, h1, h2⟩ := Option.bind_eq_some_iff.1 he
      obtain ⟨j, hj⟩ := List.getElem?_of_mem hs
      exact oBfs_mem k (i + 1) (List.mem_of_getElem? (oTo_pre hj 4 h1)) h2
    · cases he; exact hs
theorem oAll_C {g : Glu} (hg : okG g = true) : ∀ t, t ≤ g.length → ∀ {out}, oAll g t = some out → OC g t out
  | 0, ht, out, he => by
    have ha := oAll_ok hg 0 ht he
    cases he
    refine ⟨ha, fun v hv => absurd hv (Nat.not_lt_zero _), fun v f hv hf h => absurd ?_ h⟩
    simp [List.getD_eq_getElem?_getD, hv]
  | t + 1, ht, out, he => by
    have ha := oAll_ok hg (t + 1) ht he
    rw [oAll] at he
    obtain ⟨o1, h1, h2⟩ := Option.bind_eq_some_iff.1 he
    have ih := oAll_C hg t (by omega) h1
    rw [oNext] at h2
    split at h2
    · rename_i hc
      cases h2
      exact ⟨ha, fun v hv => by rcases Nat.lt_or_ge v t with h | h; exact ih.vis v h; obtain rfl : v = t := (by omega); exact hc, ih.edge⟩
    · rename_i hc
      obtain ⟨s, hs, e⟩ := Option.map_eq_some_iff.1 h2
      obtain ⟨o2, l⟩ := s
      have e : o2 = out := e
      subst e
      obtain ⟨q, hq, hJ⟩ := oBfs_J hg g.length 0 (OJ.start ih.all (by omega) (Decidable.not_not.1 hc)) (by omega) hs
      have htm : t ∈ l := oBfs_mem g.length 0 (List.mem_singleton.2 rfl) hs
      have hsame : ∀ v, v ∉ l → o2.getD v 0 = o1.getD v 0 := hJ.same
      have hset : ∀ u ∈ l, o2.getD u 0 ≠ 0 := hJ.st.set
      have hfresh : ∀ u ∈ l, o1.getD u 0 = 0 := hJ.fresh
      refine ⟨ha, fun v hv => ?_, fun v f hv hf h h0 => ?_⟩
      · by_cases hm : v ∈ l
        · exact hset v hm
        · rw [hsame v hm]
          rcases Nat.lt_or_ge v t with h | h
          · exact ih.vis v h
          · obtain rfl : v = t := by omega
            exact absurd htm hm
      · by_cases hm : v ∈ l
        · obtain ⟨j, hj⟩ := List.getElem?_of_mem hm
          have hjl := (List.getElem?_eq_some_iff.1 hj).1
          exact hJ.done j v f (by have hq : 4 * l.length ≤ q := hq; omega) hj hf h0
        · rw [hsame v hm] at h ⊢
          have e := ih.edge v f hv hf h h0
          by_cases hm2 : (fAt g v f).tet.toNat ∈ l
          · have := hfresh _ hm2
            rw [this] at e
            exact absurd e.symm (sgn_mul_ne h)
          · rw [hsame _ hm2, e]
/-- What is found is an orientation. -/
theorem ori_found {g : Glu} (hg : okG g = true) {out : List Int} (h : oriG g = some out) : Ori g (fun t => out.getD t 0) := by
  have hC := oAll_C hg g.length (Nat.le_refl _) h
  refine ⟨fun t ht => ?_, fun t f ht hf h0 => hC.edge t f ht hf (hC.vis t ht) h0⟩
  rcases hC.all.one t with e | e | e
  · exact absurd e (hC.vis t ht)
  · exact .inl e
  · exact .inr e
theorem oFace_go {g : Glu} {out0 : List Int} {o : Nat → Int} (hg : okG g = true) (ho : Ori g o) {t0 i f u : Nat} {s : BSt} (h : OJ g out0 (4 * i + f) s) (hC : ∀ v f, v < g.length → f < 4 → out0.getD v 0 ≠ 0 → 0 ≤ (fAt g v f).tet → out0.getD (fAt g v f).tet.toNat 0 = -sgnP (fAt g v f).p * out0.getD v 0)
    (hr : ∀ v ∈ s.2, s.1.getD v 0 = o v * o t0) (hu : s.2[i]? = some u) (hf : f < 4) : ∃ s', oFace g u f s = some s' ∧ ∀ v ∈ s'.2, s'.1.getD v 0 = o v * o t0 := by
  have hum : u ∈ s.2 := List.mem_of_getElem? hu
  have huN := h.st.mem u hum
  by_cases h0 : (fAt g u f).tet < 0
  · exact ⟨s, oFace_free h0, hr⟩
  · have h0' : 0 ≤ (fAt g u f).tet := by omega
    have hwN := okG_hi hg huN hf h0'
    have hgl := ho.glued u f huN hf h0'
    by_cases hz : s.1.getD (fAt g u f).tet.toNat 0 = 0
    · refine ⟨_, oFace_new h0 hz, fun v hv => ?_⟩
      have hl : (fAt g u f).tet.toNat < s.1.length := by rw [h.st.len]; exact hwN
      by_cases e : (fAt g u f).tet.toNat = v
      · subst e
        show (s.1.set _ _).getD _ 0 = _
        rw [getD_set_self' hl, hr u hum, hgl, Int.mul_assoc]
      · show (s.1.set _ _).getD v 0 = _
        rw [getD_set_ne' e]
        rcases List.mem_append.1 hv with hv | hv
        · exact hr v hv
        · exact absurd (List.mem_singleton.1 hv).symm e
    · have hm : (fAt g u f).tet.toNat ∈ s.2 := by
        by_cases hm : (fAt g u f).tet.toNat ∈ s.2
        · exact hm
        · exfalso
          rw [h.same _ hm] at hz
          obtain ⟨f', hf', hb⟩ := edge_back hg huN hf h0'
          have := hC (fAt g u f).tet.toNat f' hwN hf' hz (by rw [hb]; show 0 ≤ (u : Int); omega)
          rw [hb] at this
          have e : out0.getD u 0 = -sgnP (invP (fAt g u f).p) * out0.getD (fAt g u f).tet.toNat 0 := by simpa using this
          rw [h.fresh u hum] at e
          exact sgn_mul_ne hz e.symm
      refine ⟨s, oFace_same h0 hz ?_, hr⟩
      rw [hr _ hm, hr u hum, hgl, Int.mul_assoc]
theorem oTo_go {g : Glu} {out0 : List Int} {o : Nat → Int} (hg : okG g = true) (ho : Ori g o) {t0 i u : Nat} {s : BSt} (h : OJ g out0 (4 * i) s) (hC : ∀ v f, v < g.length → f < 4 → out0.getD v 0 ≠ 0 → 0 ≤ (fAt g v f).tet → out0.getD (fAt g v f).tet.toNat 0 = -sgnP (fAt g v f).p * out0.getD v 0)
    (hr : ∀ v ∈ s.2, s.1.getD v 0 = o v * o t0) (hu : s.2[i]? = some u) : ∀ f, f ≤ 4 → ∃ s', oTo g u s f = some s' ∧ ∀ v ∈ s'.2, s'.1.getD v 0 = o v * o t0
  | 0, _ => ⟨s, rfl, hr⟩
  | f + 1, hf => by
    obtain ⟨s1, h1, r1⟩ := oTo_go hg ho h hC hr hu f (by omega)
    obtain ⟨k1, k2⟩ := oTo_J hg h hu f (by omega) h1
    obtain ⟨s2, h2, r2⟩ := oFace_go hg ho k1 hC r1 k2 (by omega)
    exact ⟨s2, oTo_snoc h1 h2, r2⟩
theorem oBfs_go {g : Glu} {out0 : List Int} {o : Nat → Int} (hg : okG g = true) (ho : Ori g o) {t0 : Nat} (hC : ∀ v f, v < g.length → f < 4 → out0.getD v 0 ≠ 0 → 0 ≤ (fAt g v f).tet → out0.getD (fAt g v f).tet.toNat 0 = -sgnP (fAt g v f).p * out0.getD v 0) : ∀ (k i : Nat) {s : BSt}, OJ g out0 (4 * i) s → (∀ v ∈ s.2, s.1.getD v 0 = o v * o t0) → ∃ s', oBfs g k i s = some s'
  | 0, i, s, _, _ => ⟨s, rfl⟩
  | k + 1, i, s, h, hr => by
    by_cases hi : i < s.2.length
    · have hu := getD_nat hi
      obtain ⟨s1, h1, r1⟩ := oTo_go hg ho h hC hr hu 4 (Nat.le_refl 4)
      obtain ⟨s2, h2⟩ := oBfs_go hg ho hC k (i + 1) (oTo_J hg h hu 4 (Nat.le_refl 4) h1).1 r1
      exact ⟨s2, by rw [oBfs_step hu, h1]; exact h2⟩
    · exact ⟨s, oBfs_done hi⟩
theorem one_mul_self {x : Int} (h : x = 1 ∨ x = -1) : x * x = 1 := by rcases h with h | h <;> rw [h] <;> decide
theorem oAll_go {g : Glu} {o : Nat → Int} (hg : okG g = true) (ho : Ori g o) : ∀ t, t ≤ g.length → ∃ out, oAll g t = some out
  | 0, _ => ⟨_, rfl⟩
  | t + 1, ht => by
    obtain ⟨o1, h1⟩ := oAll_go hg ho t (by omega)
    have hC := oAll_C hg t (by omega) h1
    by_cases hc : o1.getD t 0 ≠ 0
    · exact ⟨o1, oAll_keep h1 hc⟩
    · have hl : t < o1.length := by rw [hC.all.len]; omega
      obtain ⟨s, hs⟩ := oBfs_go (t0 := t) hg ho hC.edge g.length 0 (OJ.start hC.all (by omega) (Decidable.not_not.1 hc)) (fun v hv => by
        obtain rfl := List.mem_singleton.1 hv
        show (o1.set v 1).getD v 0 = _
        rw [getD_set_self' hl, one_mul_self (ho.one v (by omega))])
      exact ⟨s.1, by rw [oAll_new h1 hc, hs]; rfl⟩
theorem ori_iff {g : Glu} (hg : okG g = true) : (oriG g).isSome = true ↔ ∃ o, Ori g o := by
  constructor
  · intro h
    obtain ⟨out, ho⟩ := Option.isSome_iff_exists.1 h
    exact ⟨_, ori_found hg ho⟩
  · rintro ⟨o, ho⟩
    obtain ⟨out, h⟩ := oAll_go hg ho g.length (Nat.le_refl _)
    rw [show oriG g = some out from h]; rfl
end Go.V
/- The twofold cover and the double: validity, orientations, parts. -/
namespace Go.V
open Go
/-- The copies of a tetrahedron. -/
def vx (n t : Nat) (b : Bool) : Nat := if b = true then t + n else t
theorem vx_lt {n t : Nat} (h : t < n) (b : Bool) : vx n t b < 2 * n := by rw [vx]; split <;> omega
theorem vx_inj {n t u : Nat} {b c : Bool} (ht : t < n) (hu : u < n) (h : vx n t b = vx n u c) : t = u ∧ b = c := by
  cases b <;> cases c <;> simp [vx] at h ⊢ <;> omega
theorem vx_all {n v : Nat} (h : v < 2 * n) : ∃ t b, t < n ∧ v = vx n t b := by
  rcases Nat.lt_or_ge v n with h1 | h1
  · exact ⟨v, false, h1, rfl⟩
  · exact ⟨v - n, true, by omega, by simp [vx]; omega⟩
def sh (b : Bool) (p : P4) : Bool := if sgnP p = 1 then !b else b
theorem sh_back (b : Bool) {p : P4} (h : okP p = true) : sh (sh b p) (invP p) = b := by
  rw [sh, sgn_inv h, sh]; split <;> cases b <;> rfl
theorem two_face {g : Glu} (hg : okG g = true) {t f : Nat} (ht : t < g.length) (hf : f < 4) (b : Bool) : fAt (twoG g) (vx g.length t b) f = if (fAt g t f).tet < 0 then fAt g t f else ⟨((vx g.length (fAt g t f).tet.toNat (sh b (fAt g t f).p) : Nat) : Int), (fAt g t f).p⟩ := by
  have hb := okG_tet hg ht hf
  rw [twoG, cgAll_at _ _ (by rw [uniG_len']; have := vx_lt ht b; omega) hf]
  cases b
  · rw [show vx g.length t false = t from rfl, uniG_lo ht]
    by_cases h0 : (fAt g t f).tet < 0
    · rw [if_pos h0, twH, if_neg (by omega)]
    · rw [if_neg h0, twH]
      by_cases hs : sgnP (fAt g t f).p = 1
      · rw [if_pos ⟨by omega, hs⟩, sh, if_pos hs]
        rw [Int.emod_eq_of_lt (by omega) (by omega)]
        congr 1
        simp [vx]; omega
      · rw [if_neg (fun h => hs h.2), sh, if_neg hs]
        show fAt g t f = ⟨((fAt g t f).tet.toNat : Int), _⟩
        rw [show (((fAt g t f).tet.toNat : Nat) : Int) = (fAt g t f).tet by omega]
  · rw [show vx g.length t true = t + g.length from rfl, uniG_hi ht hf]
    by_cases h0 : (fAt g t f).tet < 0
    · rw [if_pos h0, shF, if_neg (by omega), twH, if_neg (by omega)]
    · rw [if_neg h0, shF, if_pos (by omega), twH]
      by_cases hs : sgnP (fAt g t f).p = 1
      · rw [if_pos ⟨by show 0 ≤ _ + _; omega, hs⟩, sh, if_pos hs]
        congr 1
        show ((fAt g t f).tet + g.length + g.length) % (2 * g.length) = _
        rw [show (fAt g t f).tet + (g.length : Int) + g.length = (fAt g t f).tet + 2 * g.length by omega, Int.add_emod_right, Int.emod_eq_of_lt (by omega) (by omega)]
        simp [vx]; omega
      · rw [if_neg (fun h => hs h.2), sh, if_neg hs]
        congr 1
        simp [vx]; omega
theorem two_free {g : Glu} (hg : okG g = true) {t f : Nat} (ht : t < g.length) (hf : f < 4) (b : Bool) (h : (fAt g t f).tet < 0) : fAt (twoG g) (vx g.length t b) f = noF := by
  rw [two_face hg ht hf b, if_pos h, okG_free hg ht hf h]
theorem two_glued {g : Glu} (hg : okG g = true) {t f : Nat} (ht : t < g.length) (hf : f < 4) (b : Bool) (h : 0 ≤ (fAt g t f).tet) : fAt (twoG g) (vx g.length t b) f = ⟨((vx g.length (fAt g t f).tet.toNat (sh b (fAt g t f).p) : Nat) : Int), (fAt g t f).p⟩ := by
  rw [two_face hg ht hf b, if_neg (by omega)]
theorem two_okG {g : Glu} (hg : okG g = true) (hn : 2 * g.length ≤ 1000) : okG (twoG g) = true := by
  refine okG_of (by rw [twoG_len]; exact hn) fun v f hv hf => faceOk_iff.2 ?_
  rw [twoG_len] at hv
  obtain ⟨t, b, ht, rfl⟩ := vx_all hv
  by_cases h0 : (fAt g t f).tet < 0
  · exact .inl (two_free hg ht hf b h0)
  · have hF := okG_glued hg ht hf (by omega)
    have hw := okG_hi hg ht hf hF.lo
    have e := two_glued hg ht hf b hF.lo
    have hp := okP_at hF.ok f
    refine .inr ⟨by rw [e]; exact Int.natCast_nonneg _, by rw [e, twoG_len]; have := vx_lt hw (sh b (fAt g t f).p); show ((vx _ _ _ : Nat) : Int) < _; omega, by rw [e]; exact hF.ok, fun h => ?_, ?_⟩
    · rw [e] at h
      have h1 : ((vx g.length (fAt g t f).tet.toNat (sh b (fAt g t f).p) : Nat) : Int) = vx g.length t b := h.1
      obtain ⟨h2, _⟩ := vx_inj hw ht (Int.ofNat_inj.1 h1)
      exact hF.ne ⟨by have := hF.lo; omega, h.2⟩
    · rw [e]
      show fAt (twoG g) (((vx g.length (fAt g t f).tet.toNat (sh b (fAt g t f).p) : Nat) : Int)).toNat ((fAt g t f).p.at f).toNat = _
      rw [Int.toNat_natCast]
      have hb := hF.back
      have e2 := two_glued hg hw (f := ((fAt g t f).p.at f).toNat) (by omega) (sh b (fAt g t f).p) (by rw [hb]; exact Int.natCast_nonneg _)
      rw [e2, hb]
      show Fc.mk ((vx g.length ((t : Int)).toNat (sh (sh b (fAt g t f).p) (invP (fAt g t f).p)) : Nat) : Int) _ = _
      rw [sh_back b hF.ok, Int.toNat_natCast]
theorem two_ori {g : Glu} (hg : okG g = true) : Ori (twoG g) (fun v => if v < g.length then 1 else -1) := by
  refine ⟨fun v _ => by show (if v < g.length then (1 : Int) else -1) = 1 ∨ (if v < g.length then (1 : Int) else -1) = -1; split <;> simp, fun v f hv hf h0 => ?_⟩
  rw [twoG_len] at hv
  obtain ⟨t, b, ht, rfl⟩ := vx_all hv
  by_cases hc : (fAt g t f).tet < 0
  · rw [two_free hg ht hf b hc] at h0; exact absurd h0 (by decide)
  · have hw := okG_hi hg ht hf (by omega)
    rw [two_glued hg ht hf b (by omega)]
    show (if ((vx g.length (fAt g t f).tet.toNat (sh b (fAt g t f).p) : Nat) : Int).toNat < g.length then (1 : Int) else -1) = -sgnP (fAt g t f).p * (if vx g.length t b < g.length then (1 : Int) else -1)
    rw [Int.toNat_natCast, sh]
    have hh : ∀ a, ¬ a + g.length < g.length := fun a => by omega
    rcases sgnP_one (fAt g t f).p with e | e <;> rw [e] <;> cases b <;> simp [vx, ht, hw, hh]
theorem cnt_parts {g : Glu} (hg : okG g = true) {a b : Nat} (ha : a < g.length) (hb : b < g.length) (hall : ∀ v, v < g.length → Cn g a v ∨ Cn g b v) : (Cn g a b → partsN g = 1) ∧ (¬ Cn g a b → partsN g = 2) := by
  have hA := parts_A hg
  have ra := parts_rng hg ha
  have rb := parts_rng hg hb
  have hv : ∀ k, 0 ≤ k → k < partsN g → k = (partsOf g).getD a 0 ∨ k = (partsOf g).getD b 0 := fun k h0 h1 => by
    obtain ⟨v, hv, e⟩ := hA.onto k h0 h1
    have e : (partsOf g).getD v 0 = k := e
    rcases hall v hv with h | h
    · exact .inl (by rw [← e, (parts_iff hg ha hv).2 h])
    · exact .inr (by rw [← e, (parts_iff hg hb hv).2 h])
  constructor
  · intro h
    have e := (parts_iff hg ha hb).2 h
    by_cases h1 : partsN g = 1
    · exact h1
    · have h2 := hv 0 (by omega) (by omega); have h3 := hv 1 (by omega) (by omega)
      omega
  · intro h
    have e : (partsOf g).getD a 0 ≠ (partsOf g).getD b 0 := fun e => h ((parts_iff hg ha hb).1 e)
    by_cases h2 : partsN g ≤ 2
    · omega
    · have k0 := hv 0 (by omega) (by omega); have k1 := hv 1 (by omega) (by omega); have k2 := hv 2 (by omega) (by omega)
      omega
theorem one_part {g : Glu} (hg : okG g = true) (h : partsN g = 1) : 0 < g.length ∧ ∀ t u, t < g.length → u < g.length → Cn g t u := by
  have hA := parts_A hg
  obtain ⟨v, hv, _⟩ := hA.onto 0 (by decide) (by show 0 < partsN g; omega)
  refine ⟨by omega, fun t u ht hu => (parts_iff hg ht hu).1 ?_⟩
  have := parts_rng hg ht; have := parts_rng hg hu
  omega
/-- A way in the gluing is a way in its cover. -/
theorem two_lift {g : Glu} (hg : okG g = true) {t u : Nat} (h : Cn g t u) : ∀ b, ∃ c, Cn (twoG g) (vx g.length t b) (vx g.length u c) := by
  induction h with
  | refl => exact fun b => ⟨b, .refl _⟩
  | step h hu hf h0 ih =>
    intro b
    obtain ⟨c, hc⟩ := ih b
    rename_i u f
    have e := two_glued hg hu hf c h0
    refine ⟨sh c (fAt g u f).p, ?_⟩
    have := hc.step (f := f) (by rw [twoG_len]; exact vx_lt hu c) hf (by rw [e]; exact Int.natCast_nonneg _)
    rw [e] at this
    simpa using this
/-- The other sheet. -/
theorem two_deck {g : Glu} (hg : okG g = true) {v w : Nat} (h : Cn (twoG g) v w) : ∀ t b, t < g.length → v = vx g.length t b → ∃ u c, u < g.length ∧ w = vx g.length u c ∧ Cn (twoG g) (vx g.length t (!b)) (vx g.length u (!c)) := by
  induction h with
  | refl => exact fun t b ht e => ⟨t, b, ht, e, .refl _⟩
  | step h hu hf h0 ih =>
    intro t b ht e
    obtain ⟨u, c, hu2, e2, hc⟩ := ih t b ht e
    subst e2
    rename_i f
    by_cases hfree : (fAt g u f).tet < 0
    · rw [two_free hg hu2 hf c hfree] at h0; exact absurd h0 (by decide)
    · have hw := okG_hi hg hu2 hf (by omega)
      have e1 := two_glued hg hu2 hf c (by omega)
      have e2 := two_glued hg hu2 hf (!c) (by omega)
      refine ⟨(fAt g u f).tet.toNat, sh c (fAt g u f).p, hw, by rw [e1]; simp, ?_⟩
      have := hc.step (f := f) (by rw [twoG_len]; exact vx_lt hu2 (!c)) hf (by rw [e2]; exact Int.natCast_nonneg _)
      rw [e2] at this
      have hs : sh (!c) (fAt g u f).p = !(sh c (fAt g u f).p) := by rw [sh, sh]; split <;> rfl
      rw [hs] at this
      simpa using this
theorem deck {g : Glu} (hg : okG g = true) {t u : Nat} {b c : Bool} (ht : t < g.length) (hu : u < g.length) (h : Cn (twoG g) (vx g.length t b) (vx g.length u c)) : Cn (twoG g) (vx g.length t (!b)) (vx g.length u (!c)) := by
  obtain ⟨u', c', hu', e, h2⟩ := two_deck hg h t b ht rfl
  obtain ⟨rfl, rfl⟩ := vx_inj hu hu' e
  exact h2
theorem two_all {g : Glu} (hg : okG g = true) (hn : 2 * g.length ≤ 1000) (h1 : partsN g = 1) : 0 < g.length ∧ ∀ v, v < (twoG g).length → Cn (twoG g) (vx g.length 0 false) v ∨ Cn (twoG g) (vx g.length 0 true) v := by
  obtain ⟨h0, hall⟩ := one_part hg h1
  refine ⟨h0, fun v hv => ?_⟩
  rw [twoG_len] at hv
  obtain ⟨t, b, ht, rfl⟩ := vx_all hv
  have h2 := two_okG hg hn
  obtain ⟨c, hc⟩ := two_lift hg (hall t 0 ht h0) b
  cases c
  · exact .inl (hc.symm h2)
  · exact .inr (hc.symm h2)
/-- A colour that the cover's parts keep. -/
theorem colour {g : Glu} (hg : okG g = true) {o : Nat → Int} (ho : Ori g o) {v w : Nat} (h : Cn (twoG g) v w) : ∀ t b, t < g.length → v = vx g.length t b → ∃ u c, u < g.length ∧ w = vx g.length u c ∧ o u * (if c = true then -1 else 1) = o t * (if b = true then -1 else 1) := by
  induction h with
  | refl => exact fun t b ht e => ⟨t, b, ht, e, rfl⟩
  | step h hu hf h0 ih =>
    intro t b ht e
    obtain ⟨u, c, hu2, e2, hc⟩ := ih t b ht e
    subst e2
    rename_i f
    by_cases hfree : (fAt g u f).tet < 0
    · rw [two_free hg hu2 hf c hfree] at h0; exact absurd h0 (by decide)
    · have hw := okG_hi hg hu2 hf (by omega)
      have e1 := two_glued hg hu2 hf c (by omega)
      refine ⟨(fAt g u f).tet.toNat, sh c (fAt g u f).p, hw, by rw [e1]; simp, ?_⟩
      rw [ho.glued u f hu2 hf (by omega), ← hc, sh]
      rcases sgnP_one (fAt g u f).p with e | e <;> rw [e] <;> cases c <;> simp
theorem two_apart {g : Glu} (hg : okG g = true) {o : Nat → Int} (ho : Ori g o) (h0 : 0 < g.length) : ¬ Cn (twoG g) (vx g.length 0 false) (vx g.length 0 true) := fun h => by
  obtain ⟨u, c, hu, e, hc⟩ := colour hg ho h 0 false h0 rfl
  obtain ⟨rfl, rfl⟩ := vx_inj h0 hu e
  have := ho.one 0 h0
  simp at hc
  omega
theorem two_split {g : Glu} (hg : okG g = true) (hn : 2 * g.length ≤ 1000) (h1 : partsN g = 1) (h : ¬ Cn (twoG g) (vx g.length 0 false) (vx g.length 0 true)) : ∃ o, Ori g o := by
  classical
  obtain ⟨h0, hall⟩ := two_all hg hn h1
  have h2 := two_okG hg hn
  have key : ∀ t, t < g.length → (Cn (twoG g) (vx g.length 0 false) (vx g.length t true) ↔ ¬ Cn (twoG g) (vx g.length 0 false) (vx g.length t false)) := fun t ht => by
    constructor
    · intro ha hb
      have hc := deck hg h0 ht hb
      exact h (ha.trans (hc.symm h2))
    · intro ha
      rcases hall (vx g.length t false) (by rw [twoG_len]; exact vx_lt ht false) with hb | hb
      · exact absurd hb ha
      · exact deck hg h0 ht hb
  refine ⟨fun t => if Cn (twoG g) (vx g.length 0 false) (vx g.length t false) then 1 else -1, fun t _ => by split <;> simp, fun t f ht hf hg0 => ?_⟩
  have hw := okG_hi hg ht hf hg0
  have e1 := two_glued hg ht hf false hg0
  have st : Cn (twoG g) (vx g.length t false) (vx g.length (fAt g t f).tet.toNat (sh false (fAt g t f).p)) := by
    have := (Cn.refl (g := twoG g) (vx g.length t false)).step (f := f) (by rw [twoG_len]; exact vx_lt ht false) hf (by rw [e1]; exact Int.natCast_nonneg _)
    rw [e1] at this; simpa using this
  have k1 := key t ht
  have k2 := key (fAt g t f).tet.toNat hw
  rcases sgnP_one (fAt g t f).p with e | e
  · rw [sh, if_pos e] at st
    rw [e]
    by_cases hc : Cn (twoG g) (vx g.length 0 false) (vx g.length t false)
    · have := hc.trans st
      rw [if_pos hc, if_neg (k2.1 this)]; rfl
    · have hd := deck hg ht hw st
      have this : Cn (twoG g) (vx g.length 0 false) (vx g.length (fAt g t f).tet.toNat false) := (k1.2 hc).trans hd
      rw [if_neg hc, if_pos this]; rfl
  · rw [sh, if_neg (by omega)] at st
    rw [e]
    by_cases hc : Cn (twoG g) (vx g.length 0 false) (vx g.length t false)
    · rw [if_pos hc, if_pos (hc.trans st)]; rfl
    · rw [if_neg hc, if_neg (fun hd => hc (hd.trans (st.symm h2)))]; rfl
/-- The parts of the cover of a gluing with one part. -/
theorem two_parts {g : Glu} (hg : okG g = true) (hn : 2 * g.length ≤ 1000) (h1 : partsN g = 1) : partsN (twoG g) = if (oriG g).isSome = true then 2 else 1 := by
  obtain ⟨h0, hall⟩ := two_all hg hn h1
  have h2 := two_okG hg hn
  obtain ⟨k1, k2⟩ := cnt_parts h2 (a := vx g.length 0 false) (b := vx g.length 0 true) (by rw [twoG_len]; exact vx_lt h0 _) (by rw [twoG_len]; exact vx_lt h0 _) hall
  by_cases ho : (oriG g).isSome = true
  · obtain ⟨o, hO⟩ := (ori_iff hg).1 ho
    rw [if_pos ho]; exact k2 (two_apart hg hO h0)
  · rw [if_neg ho]
    by_cases hc : Cn (twoG g) (vx g.length 0 false) (vx g.length 0 true)
    · exact k1 hc
    · exact absurd ((ori_iff hg).2 (two_split hg hn h1 hc)) ho
theorem dbl_face {g : Glu} (hg : okG g = true) {t f : Nat} (ht : t < g.length) (hf : f < 4) (b : Bool) : fAt (dblG g) (vx g.length t b) f = if (fAt g t f).tet < 0 then ⟨((vx g.length t (!b) : Nat) : Int), idP⟩ else ⟨((vx g.length (fAt g t f).tet.toNat b : Nat) : Int), (fAt g t f).p⟩ := by
  have hb := okG_tet hg ht hf
  rw [dblG, cgAll_at _ _ (by rw [uniG_len']; have := vx_lt ht b; omega) hf]
  cases b
  · rw [show vx g.length t false = t from rfl, uniG_lo ht, dbH]
    by_cases h0 : (fAt g t f).tet < 0
    · rw [if_pos h0, if_pos h0, Int.emod_eq_of_lt (by omega) (by omega)]; rfl
    · rw [if_neg h0, if_neg h0]
      show fAt g t f = ⟨((fAt g t f).tet.toNat : Int), _⟩
      rw [show (((fAt g t f).tet.toNat : Nat) : Int) = (fAt g t f).tet by omega]
  · rw [show vx g.length t true = t + g.length from rfl, uniG_hi ht hf, shF]
    by_cases h0 : (fAt g t f).tet < 0
    · rw [if_neg (by omega), if_pos h0, dbH, if_pos h0]
      congr 1
      rw [show ((t + g.length : Nat) : Int) + g.length = t + 2 * g.length by omega, Int.add_emod_right, Int.emod_eq_of_lt (by omega) (by omega)]; rfl
    · rw [if_pos (by omega), if_neg h0, dbH, if_neg (by show ¬ _ + _ < _; omega)]
      congr 1
      simp [vx]; omega
theorem dbl_okG {g : Glu} (hg : okG g = true) (hn : 2 * g.length ≤ 1000) : okG (dblG g) = true ∧ ∀ v f, v < (dblG g).length → f < 4 → 0 ≤ (fAt (dblG g) v f).tet := by
  have hpos : ∀ v f, v < (dblG g).length → f < 4 → 0 ≤ (fAt (dblG g) v f).tet := fun v f hv hf => by
    rw [dblG_len] at hv
    obtain ⟨t, b, ht, rfl⟩ := vx_all hv
    rw [dbl_face hg ht hf b]
    split <;> exact Int.natCast_nonneg _
  refine ⟨okG_of (by rw [dblG_len]; exact hn) fun v f hv hf => faceOk_iff.2 (.inr ?_), hpos⟩
  have h0 := hpos v f hv hf
  rw [dblG_len] at hv
  obtain ⟨t, b, ht, rfl⟩ := vx_all hv
  have e := dbl_face hg ht hf b
  by_cases hc : (fAt g t f).tet < 0
  · rw [if_pos hc] at e
    refine ⟨h0, by rw [e, dblG_len]; have := vx_lt ht (!b); show ((vx _ _ _ : Nat) : Int) < _; omega, by rw [e]; exact id_ok, fun h => ?_, ?_⟩
    · rw [e] at h
      have h1 : ((vx g.length t (!b) : Nat) : Int) = vx g.length t b := h.1
      have := (vx_inj ht ht (Int.ofNat_inj.1 h1)).2
      cases b <;> cases this
    · rw [e]
      have hid : (idP.at f).toNat = f := by
        match f, hf with
        | 0, _ => rfl
        | 1, _ => rfl
        | 2, _ => rfl
        | 3, _ => rfl
      show fAt (dblG g) (((vx g.length t (!b) : Nat) : Int)).toNat (idP.at f).toNat = ⟨_, invP idP⟩
      rw [Int.toNat_natCast, hid, dbl_face hg ht hf (!b), if_pos hc, Bool.not_not]
      rfl
  · rw [if_neg hc] at e
    have hF := okG_glued hg ht hf (by omega)
    have hw := okG_hi hg ht hf hF.lo
    have hp := okP_at hF.ok f
    refine ⟨h0, by rw [e, dblG_len]; have := vx_lt hw b; show ((vx _ _ _ : Nat) : Int) < _; omega, by rw [e]; exact hF.ok, fun h => ?_, ?_⟩
    · rw [e] at h
      have h1 : ((vx g.length (fAt g t f).tet.toNat b : Nat) : Int) = vx g.length t b := h.1
      obtain ⟨h2, _⟩ := vx_inj hw ht (Int.ofNat_inj.1 h1)
      exact hF.ne ⟨by have := hF.lo; omega, h.2⟩
    · rw [e]
      show fAt (dblG g) (((vx g.length (fAt g t f).tet.toNat b : Nat) : Int)).toNat ((fAt g t f).p.at f).toNat = _
      rw [Int.toNat_natCast, dbl_face hg hw (by omega) b, hF.back, if_neg (by show ¬ (t : Int) < 0; omega)]
      show Fc.mk ((vx g.length ((t : Int)).toNat b : Nat) : Int) _ = _
      rw [Int.toNat_natCast]
theorem dbl_ori {g : Glu} (hg : okG g = true) (hn : 2 * g.length ≤ 1000) : (oriG (dblG g)).isSome = (oriG g).isSome := by
  have h2 := (dbl_okG hg hn).1
  have : (oriG (dblG g)).isSome = true ↔ (oriG g).isSome = true := by
    rw [ori_iff h2, ori_iff hg]
    constructor
    · rintro ⟨o, ho⟩
      refine ⟨o, fun t ht => ho.one t (by rw [dblG_len]; omega), fun t f ht hf h0 => ?_⟩
      have e := dbl_face hg ht hf false
      rw [if_neg (by omega)] at e
      have e : fAt (dblG g) t f = ⟨((fAt g t f).tet.toNat : Int), (fAt g t f).p⟩ := e
      have := ho.glued t f (by rw [dblG_len]; omega) hf (by rw [e]; exact Int.natCast_nonneg _)
      rw [e] at this
      have this : o (((fAt g t f).tet.toNat : Nat) : Int).toNat = -sgnP (fAt g t f).p * o t := this
      rw [Int.toNat_natCast] at this
      exact this
    · rintro ⟨o, ho⟩
      refine ⟨fun v => if v < g.length then o v else -o (v - g.length), fun v hv => ?_, fun v f hv hf h0 => ?_⟩
      · rw [dblG_len] at hv
        split
        · exact ho.one v (by assumption)
        · have := ho.one (v - g.length) (by omega); omega
      · rw [dblG_len] at hv
        obtain ⟨t, b, ht, rfl⟩ := vx_all hv
        have hval : ∀ u c, u < g.length → (if vx g.length u c < g.length then o (vx g.length u c) else -o (vx g.length u c - g.length)) = if c = true then -o u else o u := fun u c hu => by
          cases c
          · simp [vx, hu]
          · have hh : ¬ u + g.length < g.length := by omega
            simp [vx, hh]
        rw [dbl_face hg ht hf b]
        by_cases hc : (fAt g t f).tet < 0
        · rw [if_pos hc]
          show (if ((vx g.length t (!b) : Nat) : Int).toNat < g.length then _ else _) = -sgnP idP * _
          rw [Int.toNat_natCast, hval t (!b) ht, hval t b ht, show sgnP idP = 1 from rfl]
          cases b <;> simp
        · have hw := okG_hi hg ht hf (by omega)
          rw [if_neg hc]
          show (if ((vx g.length (fAt g t f).tet.toNat b : Nat) : Int).toNat < g.length then _ else _) = -sgnP (fAt g t f).p * _
          rw [Int.toNat_natCast, hval _ b hw, hval t b ht, ho.glued t f ht hf (by omega)]
          cases b
          · rfl
          · show -(-sgnP (fAt g t f).p * o t) = -sgnP (fAt g t f).p * -o t
            rw [Int.mul_neg]
  cases h3 : (oriG (dblG g)).isSome <;> cases h4 : (oriG g).isSome <;> simp_all
end Go.V
/- The statement GlueTwofold: the walk. -/
namespace Go.Proofs
open Go Go.V
set_option maxRecDepth 20000
theorem cntTo_ge {xs : List Int} {v : Nat} : ∀ i, v < i → xs.getD v 0 + 1 ≤ cntTo xs i
  | 0, h => absurd h (Nat.not_lt_zero _)
  | i + 1, h => by
    rw [cntTo]
    rcases Nat.lt_or_ge v i with h1 | h1
    · have := cntTo_ge (xs := xs) i h1; omega
    · obtain rfl : v = i := by omega
      omega
theorem cntTo_le {xs : List Int} {N : Int} (h0 : 0 ≤ N) (h : ∀ v, v < xs.length → xs.getD v 0 < N) : ∀ i, i ≤ xs.length → cntTo xs i ≤ N
  | 0, _ => h0
  | i + 1, hi => by
    have h1 := cntTo_le h0 h i (by omega)
    have h2 := h i (by omega)
    rw [cntTo]; omega
theorem cntTo_zero {xs : List Int} : ∀ i, 0 ≤ cntTo xs i
  | 0 => Int.le_refl _
  | i + 1 => by have := cntTo_zero (xs := xs) i; rw [cntTo]; omega
theorem cnt_partsN {g : Glu} (hg : okG g = true) : cntTo (partsOf g) (partsOf g).length = partsN g := by
  have hA := parts_A hg
  have hl := parts_len hg
  have h1 := cntTo_le (xs := partsOf g) hA.pos (fun v hv => hA.rng v (by omega)) (partsOf g).length (Nat.le_refl _)
  have h1 : cntTo (partsOf g) (partsOf g).length ≤ partsN g := h1
  have hp : 0 ≤ partsN g := hA.pos
  have h2 := cntTo_zero (xs := partsOf g) (partsOf g).length
  by_cases h0 : partsN g = 0
  · omega
  · obtain ⟨v, hv, e⟩ := hA.onto (partsN g - 1) (by omega) (by show partsN g - 1 < partsN g; omega)
    have e : (partsOf g).getD v 0 = partsN g - 1 := e
    have := cntTo_ge (xs := partsOf g) (v := v) (partsOf g).length (by omega)
    omega
theorem partsN_le {g : Glu} (hg : okG g = true) : partsN g ≤ g.length := (pAll_ok hg g.length (Nat.le_refl _)).2.2
theorem lw_count_parts {g : Glu} (b : Nat) (w : World) (hg : okG g = true) (h : w.ownsRow 0 3 1 (.slice (some ⟨b, 0, none⟩) g.length g.length) g.length (ints (partsOf g))) : Gives Tryz.prog 17 #[.slice (some ⟨b, 0, none⟩) g.length g.length] w Nil (fun _ : Unit => True) (fun _ => iv (partsN g)) (fun _ => []) := by
  have hl := parts_len hg
  have h1000 := okG_len hg
  have hN := partsN_le hg
  have hs := own_shape h
  have := lw_count (.slice (some ⟨b, 0, none⟩) g.length g.length) (partsOf g) w (by rw [hl]; exact hs) (own_all h) (by omega) (fun x hx => by
    obtain ⟨i, hi⟩ := List.getElem?_of_mem hx
    have hi2 := (List.getElem?_eq_some_iff.1 hi).1
    have hr := parts_rng hg (t := i) (by omega)
    rw [getD_some hi 0] at hr
    omega)
  rwa [cnt_partsN hg] at this
theorem gl_OrientB (base : Option Addr) (A : Addr) (cap : Nat) (g : Glu) (w : World) (hg : GluAt w base A g) (hok : okG g = true) : Gives Tryz.prog 15 #[gluV base cap g] w Nil (fun _ : Value => True) (fun v => .tuple #[v, .bool (oriG g).isSome, iv 0]) (fun _ => []) := by
  refine Calls.mono (gl_Orient base A cap g w hg hok) ?_
  rintro e w' ⟨b, _, he, hs⟩
  cases ho : oriG g with
  | none => exact ⟨.slice none 0 0, trivial, by rw [he]; exact congrArg Ending.returned (oriV_none ho b), hs.sub (HSub.nil _)⟩
  | some out => exact ⟨.slice (some ⟨b, 0, none⟩) g.length g.length, trivial, by rw [he]; exact congrArg Ending.returned (oriV_some ho b), hs.sub (HSub.nil _)⟩
theorem two_isSome {g : Glu} (hg : okG g = true) (hn : 2 * g.length ≤ 1000) : (oriG (twoG g)).isSome = true := (ori_iff (two_okG hg hn)).2 ⟨_, two_ori hg⟩

theorem lw_GlueTwofold (gb : Option Addr) (GA : Addr) (gc : Nat) (g : Glu) (w : World) (he : Env w) (hg : GluAt w gb GA g) : Gives Tryz.prog 3 #[gluV gb gc g] w Nil (fun _ : Unit => True) (fun _ => .bool true) (fun _ => []) := by
  refine fn_of_run (S := Nil) (args := [gluV gb gc g]) (n := 150) (L := []) Tryz.func3 rfl Tryz.ntmps3 (Nat.le_of_ble_eq_true rfl) (Sym.nil _ _) ?_
  change RunC _ _ _ [(0, _)] _
  refine RunC.seq ?_
  refine RunC.region ?_
  refine RunL.grows rfl rfl rfl (Grows.box rfl rfl) (fun b1 _ => ?_)
  refine RunL.still rfl rfl rfl (Still.assign rfl rfl) ?_
  refine RunL.nil ?_
  refine Ends.then ?_
  refine RunC.seq ?_
  refine RunC.seq ?_
  refine RunC.region ?_
  refine RunL.grows rfl rfl rfl (Grows.call (vs := #[]) rfl rfl Tryz.call9 (fun w hs => lw_sane w (he.sym hs))) (fun _ _ => ?_)
  refine RunL.still rfl rfl rfl (Still.not rfl rfl) ?_
  refine RunL.again (t := 21) (u := .bool false) rfl (rfl) ?_
  refine RunL.nil ?_
  refine Ends.then ?_
  refine RunC.cond_false rfl ?_
  refine RunC.skip ?_
  refine Ends.then ?_
  refine RunC.seq ?_
  refine RunC.seq ?_
  refine RunC.region ?_
  refine RunL.still rfl rfl rfl (Still.loads rfl rfl Tryz.isAgg24 Tryz.sizeOf24 (vs := [_]) rfl (fun _ hs => cells_nth (hs.at (i := 0) rfl) ⟨rfl, trivial⟩)) ?_
  refine RunL.grows rfl rfl rfl (Grows.slice1 rfl rfl Tryz.underlying63 Tryz.sizeOf24 rfl Tryz.zeroValue24 (by decide)) (fun b23 _ => ?_)
  refine RunL.grows rfl rfl rfl (Grows.call (vs := #[_]) rfl rfl Tryz.call10 (fun w hs => lw_small1 b23 gb gc g.length w (cells_nth (hs.at (i := 0) rfl) ⟨rfl, trivial⟩))) (fun _ _ => ?_)
  refine RunL.still rfl rfl rfl (Still.not rfl rfl) ?_
  refine RunL.still rfl rfl rfl (Still.move rfl rfl) ?_
  refine RunL.split (t := 26) rfl (fun h26 => ?_) (fun h26 => ?_)
  · skip
    refine RunL.off rfl rfl rfl ?_
    refine RunL.off rfl rfl rfl ?_
    refine RunL.off rfl rfl rfl ?_
    refine RunL.still rfl rfl rfl (Still.pickT rfl rfl rfl) ?_
    refine RunL.nil ?_
    refine Ends.then ?_
    refine RunC.cond_true rfl ?_
    refine RunC.seq ?_
    refine RunC.region ?_
    refine RunL.still rfl rfl rfl (Still.assign rfl rfl) ?_
    refine RunL.nil ?_
    refine Ends.then ?_
    refine RunC.ret ?_
    refine Ends.then_ret ?_
    refine Ends.leave (.inl rfl) (fun _ _ ok => results1 Tryz.results3 (Holds.tmp rfl) ok) (fun w1 hs => ?_)
    exact Ret.intro () trivial rfl (HSub.nil _) hs
  · have hgl : g.length ≤ 12 := by simpa using h26
    refine RunL.still rfl rfl rfl (Still.loads rfl rfl Tryz.isAgg24 Tryz.sizeOf24 (vs := [_]) rfl (fun _ hs => cells_nth (hs.at (i := 1) rfl) ⟨rfl, trivial⟩)) ?_
    refine RunL.grows rfl rfl rfl (Grows.call (vs := #[_]) rfl rfl Tryz.call11 (fun w hs => rf_Check gb GA gc g w (hg.sym hs))) (fun _ _ => ?_)
    refine RunL.still rfl rfl rfl (Still.neq rfl rfl rfl) ?_
    refine RunL.still rfl rfl rfl (Still.pickF rfl rfl rfl) ?_
    refine RunL.nil ?_
    refine Ends.then ?_
    refine RunC.cond rfl (fun h30 => ?_) (fun h30 => ?_)
    · skip
      refine RunC.seq ?_
      refine RunC.region ?_
      refine RunL.still rfl rfl rfl (Still.assign rfl rfl) ?_
      refine RunL.nil ?_
      refine Ends.then ?_
      refine RunC.ret ?_
      refine Ends.then_ret ?_
      refine Ends.leave (.inl rfl) (fun _ _ ok => results1 Tryz.results3 (Holds.tmp rfl) ok) (fun w2 hs => ?_)
      exact Ret.intro () trivial rfl (HSub.nil _) hs
    · have hok : okG g = true := by by_cases k : okG g = true; exact k; exact absurd (chkG_bad (by simpa using k)) (by have h30 := of_decide_eq_false h30; rw [Decidable.not_not.1 h30]; decide)
      have hn2 : 2 * g.length ≤ 1000 := by omega
      have hok2 := two_okG hok hn2
      obtain ⟨hokd, hglued⟩ := dbl_okG hok hn2
      have hdl := dblG_len g
      have htl := twoG_len g
      refine RunC.skip ?_
      refine Ends.then ?_
      refine RunC.seq ?_
      refine RunC.region ?_
      refine RunL.still rfl rfl rfl (Still.loads rfl rfl Tryz.isAgg24 Tryz.sizeOf24 (vs := [_]) rfl (fun _ hs => cells_nth (hs.at (i := 1) rfl) ⟨rfl, trivial⟩)) ?_
      refine RunL.grows rfl rfl rfl (Grows.call (vs := #[_]) rfl rfl Tryz.call12 (fun w hs => gl_Twofold gb GA gc g w (hg.sym hs) hok hn2)) (fun q hq => ?_)
      refine RunL.still rfl rfl rfl (Still.move rfl rfl) ?_
      refine RunL.still rfl rfl rfl (Still.extractN rfl rfl rfl) ?_
      refine RunL.still rfl rfl rfl (Still.extractN rfl rfl rfl) ?_
      refine RunL.grows rfl rfl rfl (Grows.alloc rfl Tryz.zeroValue24) (fun b3 _ => ?_)
      refine RunL.does0 rfl rfl (Does.store rfl rfl rfl (i := 0) rfl Tryz.sizeOf24 rfl (rfl) rfl) (fun _ _ => ?_)
      refine RunL.conv (fun _ hs => hs.re 0 rfl (show _ = HL.obj b3 (.cells #[.slice q.1 (twoG g).length q.2] 24 (0, 0)) from rfl)) ?_
      refine RunL.still rfl rfl rfl (Still.assign rfl rfl) ?_
      refine RunL.nil ?_
      refine Ends.then ?_
      refine RunC.seq ?_
      refine RunC.region ?_
      refine RunL.still rfl rfl rfl (Still.loads rfl rfl Tryz.isAgg24 Tryz.sizeOf24 (vs := [_]) rfl (fun _ hs => cells_nth (hs.at (i := 3) rfl) ⟨rfl, trivial⟩)) ?_
      refine RunL.grows rfl rfl rfl (Grows.call (vs := #[_]) rfl rfl Tryz.call13 (fun w hs => gl_Double gb GA gc g w (hg.sym hs) hok hn2)) (fun r hr => ?_)
      refine RunL.still rfl rfl rfl (Still.move rfl rfl) ?_
      refine RunL.still rfl rfl rfl (Still.extractN rfl rfl rfl) ?_
      refine RunL.still rfl rfl rfl (Still.extractN rfl rfl rfl) ?_
      refine RunL.grows rfl rfl rfl (Grows.alloc rfl Tryz.zeroValue24) (fun b5 _ => ?_)
      refine RunL.does0 rfl rfl (Does.store rfl rfl rfl (i := 0) rfl Tryz.sizeOf24 rfl (rfl) rfl) (fun _ _ => ?_)
      refine RunL.conv (fun _ hs => hs.re 0 rfl (show _ = HL.obj b5 (.cells #[.slice r.1 (dblG g).length r.2] 24 (0, 0)) from rfl)) ?_
      refine RunL.still rfl rfl rfl (Still.assign rfl rfl) ?_
      refine RunL.nil ?_
      refine Ends.then ?_
      refine RunC.seq ?_
      refine RunC.seq ?_
      refine RunC.region ?_
      refine RunL.still rfl rfl rfl (Still.move rfl rfl) ?_
      refine RunL.still rfl rfl rfl (Still.neq rfl rfl rfl) ?_
      refine RunL.again (t := 42) (u := .bool false) rfl (rfl) ?_
      refine RunL.still rfl rfl rfl (Still.move rfl rfl) ?_
      refine RunL.still rfl rfl rfl (Still.move rfl rfl) ?_
      refine RunL.still rfl rfl rfl (Still.neq rfl rfl rfl) ?_
      refine RunL.again (t := 45) (u := .bool false) rfl (rfl) ?_
      refine RunL.still rfl rfl rfl (Still.pickF rfl rfl rfl) ?_
      refine RunL.still rfl rfl rfl (Still.move rfl rfl) ?_
      refine RunL.still rfl rfl rfl (Still.loads rfl rfl Tryz.isAgg24 Tryz.sizeOf24 (vs := [_]) rfl (fun _ hs => cells_nth (hs.at (i := 2) rfl) ⟨rfl, trivial⟩)) ?_
      refine RunL.grows rfl rfl rfl (Grows.call (vs := #[_]) rfl rfl Tryz.call14 (fun w hs => gl_Check q.1 _ q.2 (twoG g) w (GluAt.of_ownG (q := q) (g := (twoG g)) (by first | (rw [twoG_len]; omega) | (rw [dblG_len]; omega)) (hs.at (i := 3) rfl)))) (fun _ _ => ?_)
      refine RunL.still rfl rfl rfl (Still.neq rfl rfl rfl) ?_
      refine RunL.again (t := 50) (u := .bool false) rfl (congrArg Value.bool (by rw [chkG_ok hok2]; rfl)) ?_
      refine RunL.still rfl rfl rfl (Still.pickF rfl rfl rfl) ?_
      refine RunL.still rfl rfl rfl (Still.move rfl rfl) ?_
      refine RunL.still rfl rfl rfl (Still.loads rfl rfl Tryz.isAgg24 Tryz.sizeOf24 (vs := [_]) rfl (fun _ hs => cells_nth (hs.at (i := 0) rfl) ⟨rfl, trivial⟩)) ?_
      refine RunL.grows rfl rfl rfl (Grows.call (vs := #[_]) rfl rfl Tryz.call14 (fun w hs => gl_Check r.1 _ r.2 (dblG g) w (GluAt.of_ownG (q := r) (g := (dblG g)) (by first | (rw [twoG_len]; omega) | (rw [dblG_len]; omega)) (hs.at (i := 1) rfl)))) (fun _ _ => ?_)
      refine RunL.still rfl rfl rfl (Still.neq rfl rfl rfl) ?_
      refine RunL.again (t := 55) (u := .bool false) rfl (congrArg Value.bool (by rw [chkG_ok hokd]; rfl)) ?_
      refine RunL.still rfl rfl rfl (Still.pickF rfl rfl rfl) ?_
      refine RunL.nil ?_
      refine Ends.then ?_
      refine RunC.cond_false rfl ?_
      refine RunC.skip ?_
      refine Ends.then ?_
      refine RunC.seq ?_
      refine RunC.seq ?_
      refine RunC.region ?_
      refine RunL.still rfl rfl rfl (Still.assign rfl rfl) ?_
      refine RunL.nil ?_
      refine Ends.then ?_
      refine RunC.block ?_
      refine RunC.loop2 (γ := Nat) (keep := [(1, _), (3, _), (5, _)]) (hkeep := [_, _, _, _, _, _]) (fun t => t ≤ (dblG g).length) (fun t => (dblG g).length - t) (fun t => [(7, iv t)]) (fun t => []) 0 (by omega) (Fr.Sub.cons rfl (Fr.Sub.nil _)) (Fr.Sub.cons rfl (Fr.Sub.cons rfl (Fr.Sub.cons rfl (Fr.Sub.nil _)))) (HSub.pick 0 rfl (HSub.pick 0 rfl (HSub.pick 0 rfl (HSub.pick 0 rfl (HSub.pick 0 rfl (HSub.pick 0 rfl (HSub.nil _))))))) ?_
      rintro t ht
      refine RunC.seq ?_
      refine RunC.seq ?_
      refine RunC.region ?_
      refine RunL.still rfl rfl rfl (Still.move rfl rfl) ?_
      refine RunL.still rfl rfl rfl (Still.fieldAddrL (off := 0) (off' := 0) rfl rfl Tryz.underlying24 rfl Tryz.sizeOf22 rfl) ?_
      refine RunL.still rfl rfl rfl (Still.load rfl rfl Tryz.isAgg22 (fun _ hs => cell_nth (hs.at (i := 0) rfl) rfl)) ?_
      refine RunL.still rfl rfl rfl (Still.lenSlice rfl rfl Tryz.underlying22) ?_
      refine RunL.still rfl rfl rfl (Still.lss rfl rfl rfl) ?_
      refine RunL.nil ?_
      refine Ends.then ?_
      refine RunC.cond rfl (fun h61 => ?_) (fun h61 => ?_)
      · have h61 := of_decide_eq_true h61
        have htN : t < (dblG g).length := by omega
        refine RunC.skip ?_
        refine Ends.then ?_
        refine RunC.seq ?_
        refine RunC.block ?_
        refine RunC.seq ?_
        refine RunC.region ?_
        refine RunL.still rfl rfl rfl (Still.assign rfl rfl) ?_
        refine RunL.nil ?_
        refine Ends.then ?_
        refine RunC.block ?_
        refine RunC.loop2 (γ := Nat) (keep := [(1, _), (3, _), (5, _), (7, _)]) (hkeep := [_, _, _, _, _, _]) (fun f => f ≤ 4) (fun f => 4 - f) (fun f => [(8, iv f)]) (fun f => []) 0 (by omega) (Fr.Sub.cons rfl (Fr.Sub.nil _)) (Fr.Sub.cons rfl (Fr.Sub.cons rfl (Fr.Sub.cons rfl (Fr.Sub.cons rfl (Fr.Sub.nil _))))) (HSub.pick 0 rfl (HSub.pick 0 rfl (HSub.pick 0 rfl (HSub.pick 0 rfl (HSub.pick 0 rfl (HSub.pick 0 rfl (HSub.nil _))))))) ?_
        rintro f hf
        refine RunC.seq ?_
        refine RunC.seq ?_
        refine RunC.region ?_
        refine RunL.still rfl rfl rfl (Still.move rfl rfl) ?_
        refine RunL.still rfl rfl rfl (Still.lss rfl rfl rfl) ?_
        refine RunL.nil ?_
        refine Ends.then ?_
        refine RunC.cond rfl (fun h65 => ?_) (fun h65 => ?_)
        · have h65 := of_decide_eq_true h65
          have hf4 : f < 4 := by omega
          refine RunC.skip ?_
          refine Ends.then ?_
          refine RunC.seq ?_
          refine RunC.block ?_
          refine RunC.seq ?_
          refine RunC.region ?_
          refine RunL.still rfl rfl rfl (Still.fieldAddrL (off := 0) (off' := 0) rfl rfl Tryz.underlying24 rfl Tryz.sizeOf22 rfl) ?_
          refine RunL.still rfl rfl rfl (Still.load rfl rfl Tryz.isAgg22 (fun _ hs => cell_nth (hs.at (i := 0) rfl) rfl)) ?_
          refine RunL.still rfl rfl rfl (Still.move rfl rfl) ?_
          refine RunL.still rfl rfl rfl (Still.move rfl rfl) ?_
          refine RunL.still rfl rfl rfl (Still.indexOwn rfl rfl rfl Tryz.underlying22 Tryz.sizeOf35 (fun _ hs => hs.own (i := 1) rfl) (by omega)) ?_
          refine RunL.still rfl rfl rfl (Still.indexArrN rfl rfl rfl Tryz.underlying35 Tryz.sizeOf34 (by omega)) ?_
          refine RunL.still rfl rfl rfl (Still.fieldAddrA (off := 0) rfl rfl Tryz.underlying34 rfl Tryz.sizeOf3 rfl) ?_
          refine RunL.still rfl rfl rfl (Still.load rfl rfl Tryz.isAgg3 (fun w hs => own_at3 (hs.own (i := 1) rfl) (flatT_get htN hf4 rfl))) ?_
          refine RunL.still rfl rfl rfl (Still.lss rfl rfl rfl) ?_
          refine RunL.nil ?_
          refine Ends.then ?_
          refine RunC.cond rfl (fun h76 => ?_) (fun h76 => ?_)
          · have h76 := of_decide_eq_true h76
            have := hglued t f htN hf4; omega
          · have h76 := of_decide_eq_false h76
            refine RunC.skip ?_
            refine Ends.block ?_
            refine Ends.then ?_
            refine RunC.region ?_
            refine RunL.still rfl rfl rfl (Still.move rfl rfl) ?_
            refine RunL.still rfl rfl rfl (Still.add rfl rfl rfl (fits64 (by omega) (by omega))) ?_
            refine RunL.still rfl rfl rfl (Still.assign rfl rfl) ?_
            refine RunL.nil ?_
            refine Ends.again (f + 1) ?_ ?_ (Fr.Sub.app ?_ ?_) ?_
            · show _; omega
            · show _ < _; omega
            · exact Fr.Sub.cons rfl (Fr.Sub.nil _)
            · exact Fr.Sub.cons rfl (Fr.Sub.cons rfl (Fr.Sub.cons rfl (Fr.Sub.cons rfl (Fr.Sub.nil _))))
            · exact HSub.pick 0 rfl (HSub.pick 0 rfl (HSub.pick 0 rfl (HSub.pick 0 rfl (HSub.pick 0 rfl (HSub.pick 0 rfl (HSub.nil _))))))
        · have h65 := of_decide_eq_false h65
          obtain rfl : f = 4 := by omega
          refine RunC.exit ?_
          refine Ends.then_exit ?_
          refine Ends.then_exit ?_
          refine Ends.block_exit ?_
          refine Ends.block ?_
          refine Ends.then ?_
          refine RunC.region ?_
          refine RunL.still rfl rfl rfl (Still.move rfl rfl) ?_
          refine RunL.still rfl rfl rfl (Still.add rfl rfl rfl (fits64 (by omega) (by omega))) ?_
          refine RunL.still rfl rfl rfl (Still.assign rfl rfl) ?_
          refine RunL.nil ?_
          refine Ends.again (t + 1) ?_ ?_ (Fr.Sub.app ?_ ?_) ?_
          · show _; omega
          · show _ < _; omega
          · exact Fr.Sub.cons rfl (Fr.Sub.nil _)
          · exact Fr.Sub.cons rfl (Fr.Sub.cons rfl (Fr.Sub.cons rfl (Fr.Sub.nil _)))
          · exact HSub.pick 0 rfl (HSub.pick 0 rfl (HSub.pick 0 rfl (HSub.pick 0 rfl (HSub.pick 0 rfl (HSub.pick 0 rfl (HSub.nil _))))))
      · have h61 := of_decide_eq_false h61
        obtain rfl : t = (dblG g).length := by omega
        refine RunC.exit ?_
        refine Ends.then_exit ?_
        refine Ends.then_exit ?_
        refine Ends.block_exit ?_
        refine Ends.then ?_
        refine RunC.seq ?_
        refine RunC.region ?_
        refine RunL.still rfl rfl rfl (Still.loads rfl rfl Tryz.isAgg24 Tryz.sizeOf24 (vs := [_]) rfl (fun _ hs => cells_nth (hs.at (i := 5) rfl) ⟨rfl, trivial⟩)) ?_
        refine RunL.grows rfl rfl rfl (Grows.call (vs := #[_]) rfl rfl Tryz.call15 (fun w hs => gl_OrientB gb GA gc g w (hg.sym hs) hok)) (fun v1 _ => ?_)
        refine RunL.still rfl rfl rfl (Still.move rfl rfl) ?_
        refine RunL.still rfl rfl rfl (Still.extractN rfl rfl rfl) ?_
        refine RunL.still rfl rfl rfl (Still.extractN rfl rfl rfl) ?_
        refine RunL.still rfl rfl rfl (Still.extractN rfl rfl rfl) ?_
        refine RunL.still rfl rfl rfl (Still.assign rfl rfl) ?_
        refine RunL.still rfl rfl rfl (Still.assign rfl rfl) ?_
        refine RunL.still rfl rfl rfl (Still.assign rfl rfl) ?_
        refine RunL.nil ?_
        refine Ends.then ?_
        refine RunC.seq ?_
        refine RunC.region ?_
        refine RunL.still rfl rfl rfl (Still.loads rfl rfl Tryz.isAgg24 Tryz.sizeOf24 (vs := [_]) rfl (fun _ hs => cells_nth (hs.at (i := 2) rfl) ⟨rfl, trivial⟩)) ?_
        refine RunL.grows rfl rfl rfl (Grows.call (vs := #[_]) rfl rfl Tryz.call15 (fun w hs => gl_OrientB q.1 _ q.2 (twoG g) w (GluAt.of_ownG (q := q) (g := (twoG g)) (by first | (rw [twoG_len]; omega) | (rw [dblG_len]; omega)) (hs.at (i := 3) rfl)) hok2)) (fun v2 _ => ?_)
        refine RunL.still rfl rfl rfl (Still.move rfl rfl) ?_
        refine RunL.still rfl rfl rfl (Still.extractN rfl rfl rfl) ?_
        refine RunL.still rfl rfl rfl (Still.extractN rfl rfl rfl) ?_
        refine RunL.still rfl rfl rfl (Still.extractN rfl rfl rfl) ?_
        refine RunL.still rfl rfl rfl (Still.assign rfl rfl) ?_
        refine RunL.still rfl rfl rfl (Still.assign rfl rfl) ?_
        refine RunL.still rfl rfl rfl (Still.assign rfl rfl) ?_
        refine RunL.nil ?_
        refine Ends.then ?_
        refine RunC.seq ?_
        refine RunC.region ?_
        refine RunL.still rfl rfl rfl (Still.loads rfl rfl Tryz.isAgg24 Tryz.sizeOf24 (vs := [_]) rfl (fun _ hs => cells_nth (hs.at (i := 0) rfl) ⟨rfl, trivial⟩)) ?_
        refine RunL.grows rfl rfl rfl (Grows.call (vs := #[_]) rfl rfl Tryz.call15 (fun w hs => gl_OrientB r.1 _ r.2 (dblG g) w (GluAt.of_ownG (q := r) (g := (dblG g)) (by first | (rw [twoG_len]; omega) | (rw [dblG_len]; omega)) (hs.at (i := 1) rfl)) hokd)) (fun v3 _ => ?_)
        refine RunL.still rfl rfl rfl (Still.move rfl rfl) ?_
        refine RunL.still rfl rfl rfl (Still.extractN rfl rfl rfl) ?_
        refine RunL.still rfl rfl rfl (Still.extractN rfl rfl rfl) ?_
        refine RunL.still rfl rfl rfl (Still.extractN rfl rfl rfl) ?_
        refine RunL.still rfl rfl rfl (Still.assign rfl rfl) ?_
        refine RunL.still rfl rfl rfl (Still.assign rfl rfl) ?_
        refine RunL.still rfl rfl rfl (Still.assign rfl rfl) ?_
        refine RunL.nil ?_
        refine Ends.then ?_
        refine RunC.seq ?_
        refine RunC.seq ?_
        refine RunC.region ?_
        refine RunL.still rfl rfl rfl (Still.move rfl rfl) ?_
        refine RunL.still rfl rfl rfl (Still.neq rfl rfl rfl) ?_
        refine RunL.again (t := 96) (u := .bool false) rfl (rfl) ?_
        refine RunL.still rfl rfl rfl (Still.move rfl rfl) ?_
        refine RunL.still rfl rfl rfl (Still.move rfl rfl) ?_
        refine RunL.still rfl rfl rfl (Still.move rfl rfl) ?_
        refine RunL.still rfl rfl rfl (Still.neqB rfl rfl rfl Tryz.underlying4) ?_
        refine RunL.again (t := 100) (u := .bool false) rfl (congrArg Value.bool (by rw [dbl_ori hok hn2]; simp)) ?_
        refine RunL.still rfl rfl rfl (Still.pickF rfl rfl rfl) ?_
        refine RunL.nil ?_
        refine Ends.then ?_
        refine RunC.cond_false rfl ?_
        refine RunC.skip ?_
        refine Ends.then ?_
        refine RunC.seq ?_
        refine RunC.region ?_
        refine RunL.still rfl rfl rfl (Still.loads rfl rfl Tryz.isAgg24 Tryz.sizeOf24 (vs := [_]) rfl (fun _ hs => cells_nth (hs.at (i := 5) rfl) ⟨rfl, trivial⟩)) ?_
        refine RunL.grows rfl rfl rfl (Grows.call (vs := #[_]) rfl rfl Tryz.call16 (fun w hs => gl_Parts gb GA gc g w (hg.sym hs) hok)) (fun pb _ => ?_)
        refine RunL.still rfl rfl rfl (Still.move rfl rfl) ?_
        refine RunL.still rfl rfl rfl (Still.extractN rfl rfl rfl) ?_
        refine RunL.still rfl rfl rfl (Still.extractN rfl rfl rfl) ?_
        refine RunL.still rfl rfl rfl (Still.assign rfl rfl) ?_
        refine RunL.still rfl rfl rfl (Still.assign rfl rfl) ?_
        refine RunL.nil ?_
        refine Ends.then ?_
        refine RunC.seq ?_
        refine RunC.region ?_
        refine RunL.still rfl rfl rfl (Still.loads rfl rfl Tryz.isAgg24 Tryz.sizeOf24 (vs := [_]) rfl (fun _ hs => cells_nth (hs.at (i := 3) rfl) ⟨rfl, trivial⟩)) ?_
        refine RunL.grows rfl rfl rfl (Grows.call (vs := #[_]) rfl rfl Tryz.call16 (fun w hs => gl_Parts q.1 _ q.2 (twoG g) w (GluAt.of_ownG (q := q) (g := (twoG g)) (by first | (rw [twoG_len]; omega) | (rw [dblG_len]; omega)) (hs.at (i := 4) rfl)) hok2)) (fun pm _ => ?_)
        refine RunL.still rfl rfl rfl (Still.move rfl rfl) ?_
        refine RunL.still rfl rfl rfl (Still.extractN rfl rfl rfl) ?_
        refine RunL.still rfl rfl rfl (Still.extractN rfl rfl rfl) ?_
        refine RunL.still rfl rfl rfl (Still.assign rfl rfl) ?_
        refine RunL.still rfl rfl rfl (Still.assign rfl rfl) ?_
        refine RunL.nil ?_
        refine Ends.then ?_
        refine RunC.seq ?_
        refine RunC.seq ?_
        refine RunC.region ?_
        refine RunL.still rfl rfl rfl (Still.move rfl rfl) ?_
        refine RunL.still rfl rfl rfl (Still.neq rfl rfl rfl) ?_
        refine RunL.again (t := 113) (u := .bool false) rfl (rfl) ?_
        refine RunL.still rfl rfl rfl (Still.move rfl rfl) ?_
        refine RunL.still rfl rfl rfl (Still.move rfl rfl) ?_
        refine RunL.still rfl rfl rfl (Still.neq rfl rfl rfl) ?_
        refine RunL.again (t := 116) (u := .bool false) rfl (rfl) ?_
        refine RunL.still rfl rfl rfl (Still.pickF rfl rfl rfl) ?_
        refine RunL.still rfl rfl rfl (Still.move rfl rfl) ?_
        refine RunL.still rfl rfl rfl (Still.move rfl rfl) ?_
        refine RunL.still rfl rfl rfl (Still.neq rfl rfl rfl) ?_
        refine RunL.again (t := 120) (u := .bool false) rfl (rfl) ?_
        refine RunL.still rfl rfl rfl (Still.pickF rfl rfl rfl) ?_
        refine RunL.still rfl rfl rfl (Still.move rfl rfl) ?_
        refine RunL.still rfl rfl rfl (Still.move rfl rfl) ?_
        refine RunL.still rfl rfl rfl (Still.neq rfl rfl rfl) ?_
        refine RunL.again (t := 124) (u := .bool false) rfl (rfl) ?_
        refine RunL.still rfl rfl rfl (Still.pickF rfl rfl rfl) ?_
        refine RunL.still rfl rfl rfl (Still.move rfl rfl) ?_
        refine RunL.still rfl rfl rfl (Still.move rfl rfl) ?_
        refine RunL.still rfl rfl rfl (Still.not rfl rfl) ?_
        refine RunL.again (t := 128) (u := .bool false) rfl (congrArg Value.bool (by rw [two_isSome hok hn2]; rfl)) ?_
        refine RunL.still rfl rfl rfl (Still.pickF rfl rfl rfl) ?_
        refine RunL.nil ?_
        refine Ends.then ?_
        refine RunC.cond_false rfl ?_
        refine RunC.skip ?_
        refine Ends.then ?_
        refine RunC.seq ?_
        refine RunC.region ?_
        refine RunL.still rfl rfl rfl (Still.move rfl rfl) ?_
        refine RunL.grows rfl rfl rfl (Grows.call (vs := #[_]) rfl rfl Tryz.call17 (fun w hs => lw_count_parts pb w hok (hs.own (i := 1) rfl))) (fun _ _ => ?_)
        refine RunL.still rfl rfl rfl (Still.neq rfl rfl rfl) ?_
        refine RunL.still rfl rfl rfl (Still.move rfl rfl) ?_
        refine RunL.split (t := 133) rfl (fun h133 => ?_) (fun h133 => ?_)
        · skip
          refine RunL.off rfl rfl rfl ?_
          refine RunL.off rfl rfl rfl ?_
          refine RunL.off rfl rfl rfl ?_
          refine RunL.off rfl rfl rfl ?_
          refine RunL.off rfl rfl rfl ?_
          refine RunL.off rfl rfl rfl ?_
          refine RunL.still rfl rfl rfl (Still.pickT rfl rfl rfl) ?_
          refine RunL.still rfl rfl rfl (Still.move rfl rfl) ?_
          refine RunL.off rfl rfl rfl ?_
          refine RunL.off rfl rfl rfl ?_
          refine RunL.off rfl rfl rfl ?_
          refine RunL.off rfl rfl rfl ?_
          refine RunL.off rfl rfl rfl ?_
          refine RunL.off rfl rfl rfl ?_
          refine RunL.off rfl rfl rfl ?_
          refine RunL.still rfl rfl rfl (Still.pickT rfl rfl rfl) ?_
          refine RunL.still rfl rfl rfl (Still.assign rfl rfl) ?_
          refine RunL.nil ?_
          refine Ends.then ?_
          refine RunC.ret ?_
          refine Ends.leave (.inl rfl) (fun _ _ ok => results1 Tryz.results3 (Holds.tmp rfl) ok) (fun w3 hs => ?_)
          exact Ret.intro () trivial rfl (HSub.nil _) hs
        · have h133 := of_decide_eq_false h133
          have hp1 : partsN g = 1 := Decidable.not_not.1 h133
          have htp := two_parts hok hn2 hp1
          refine RunL.still rfl rfl rfl (Still.move rfl rfl) ?_
          refine RunL.still rfl rfl rfl (Still.move rfl rfl) ?_
          refine RunL.split (t := 135) rfl (fun h135 => ?_) (fun h135 => ?_)
          · have hN2 : partsN (twoG g) = 2 := by rw [htp, if_pos h135]
            refine RunL.still rfl rfl rfl (Still.move rfl rfl) ?_
            refine RunL.grows rfl rfl rfl (Grows.call (vs := #[_]) rfl rfl Tryz.call17 (fun w hs => lw_count_parts pm w hok2 (hs.own (i := 0) rfl))) (fun _ _ => ?_)
            refine RunL.still rfl rfl rfl (Still.eql rfl rfl rfl) ?_
            refine RunL.again (t := 138) (u := .bool true) rfl (congrArg Value.bool (decide_eq_true hN2)) ?_
            refine RunL.still rfl rfl rfl (Still.pickT rfl rfl rfl) ?_
            refine RunL.still rfl rfl rfl (Still.pickF rfl rfl rfl) ?_
            refine RunL.still rfl rfl rfl (Still.move rfl rfl) ?_
            refine RunL.off rfl rfl rfl ?_
            refine RunL.off rfl rfl rfl ?_
            refine RunL.off rfl rfl rfl ?_
            refine RunL.off rfl rfl rfl ?_
            refine RunL.off rfl rfl rfl ?_
            refine RunL.off rfl rfl rfl ?_
            refine RunL.off rfl rfl rfl ?_
            refine RunL.still rfl rfl rfl (Still.pickT rfl rfl rfl) ?_
            refine RunL.still rfl rfl rfl (Still.assign rfl rfl) ?_
            refine RunL.nil ?_
            refine Ends.then ?_
            refine RunC.ret ?_
            refine Ends.leave (.inl rfl) (fun _ _ ok => results1 Tryz.results3 (Holds.tmp rfl) ok) (fun w4 hs => ?_)
            exact Ret.intro () trivial rfl (HSub.nil _) hs
          · have hN1 : partsN (twoG g) = 1 := by rw [htp, if_neg (by rw [h135]; decide)]
            refine RunL.off rfl rfl rfl ?_
            refine RunL.off rfl rfl rfl ?_
            refine RunL.off rfl rfl rfl ?_
            refine RunL.still rfl rfl rfl (Still.pickF rfl rfl rfl) ?_
            refine RunL.still rfl rfl rfl (Still.pickF rfl rfl rfl) ?_
            refine RunL.still rfl rfl rfl (Still.move rfl rfl) ?_
            refine RunL.still rfl rfl rfl (Still.move rfl rfl) ?_
            refine RunL.still rfl rfl rfl (Still.not rfl rfl) ?_
            refine RunL.still rfl rfl rfl (Still.move rfl rfl) ?_
            refine RunL.split (t := 144) rfl (fun h144 => ?_) (fun h144 => ?_)
            · skip
              refine RunL.still rfl rfl rfl (Still.move rfl rfl) ?_
              refine RunL.grows rfl rfl rfl (Grows.call (vs := #[_]) rfl rfl Tryz.call17 (fun w hs => lw_count_parts pm w hok2 (hs.own (i := 0) rfl))) (fun _ _ => ?_)
              refine RunL.still rfl rfl rfl (Still.eql rfl rfl rfl) ?_
              refine RunL.again (t := 147) (u := .bool true) rfl (congrArg Value.bool (decide_eq_true hN1)) ?_
              refine RunL.still rfl rfl rfl (Still.pickT rfl rfl rfl) ?_
              refine RunL.still rfl rfl rfl (Still.pickF rfl rfl rfl) ?_
              refine RunL.still rfl rfl rfl (Still.assign rfl rfl) ?_
              refine RunL.nil ?_
              refine Ends.then ?_
              refine RunC.ret ?_
              refine Ends.leave (.inl rfl) (fun _ _ ok => results1 Tryz.results3 (Holds.tmp rfl) ok) (fun w5 hs => ?_)
              exact Ret.intro () trivial rfl (HSub.nil _) hs
            · skip
              rw [h135] at h144; exact absurd h144 (by decide)

end Go.Proofs
/- GlueTwofold: for every gluing, valid or not, the statement's function returns true and changes nothing. No condition. -/
namespace Go.Proofs.YtbnfcbmpgjmhmaaGreatDoor
open Go Go.V Go.ChangeShapes Go.WideShapes Go.ChangeAt Go.WideElems Go.RowKit
theorem own : ownKnob Tryz.prog.godebug = none := by kernel_rfl
theorem laidOut : laidOutB Tryz.prog = true := by kernel_rfl
set_option maxRecDepth 100000 in
theorem door_met (os : Os) (args : Array Value) : laidMetH Tryz.prog laidT ((World.laidAll Tryz.prog os laidT).forCall (fun _ _ => 0) ⟨#[], args, []⟩).memory := by
  rw [MakeChecks.laidMetH_plain _ _ _ laidT_plain]
  exact laidMet_laidAll _ (by kernel_rfl) (by kernel_rfl)
set_option maxRecDepth 100000 in
theorem lifted (os : Os) (started : os.Started) (H : Type) (enc : TypeId × Value → H) :
    ReturnsInHanded {} Tryz.checked os 3 .any (fun w args => (Rows.glueTwofoldSpec.pre enc Tryz.prog Tryz.f3 [] false w args ∧ laidMetH Tryz.prog laidT w) ∧ sizedMet enc Tryz.prog Tryz.f3 (OpenSpec.ofChange Rows.glueTwofoldSpec) false w args)
      (Rows.glueTwofoldSpec.post enc Tryz.prog Tryz.f3 false true false false) := by
  refine wrap_and_shaped (C := Tryz.checked) (X := fun w _ => laidMetH Tryz.prog laidT w) (fun _ _ _ hh h => h.of_heap hh) own started (by kernel_rfl) Tryz.func3
    (ChangeSpec.witness_shaped (enc := enc) (C := Tryz.checked) (os := os) (X := fun w _ => laidMetH Tryz.prog laidT w) false (World.laidAll Tryz.prog os laidT) #[.agg #[.slice none 0 0]] 8 (World.laidAll_os _ _ _) (World.shaped_of_ZipB (by kernel_rfl) (by kernel_rfl)) (by kernel_rfl) (by kernel_rfl) (by kernel_rfl) (door_met os _)) ?_
  intro W base args ds gs before hval0 hW hL hSh
  have hE : Env W := env_of_laid hL hSh
  have hval : ∀ (j : Nat) t v, Tryz.f3.params[j]? = some t → args[j]? = some v → Value.okWide Tryz.prog W .any base t v := hval0
  have hW' := hW
  have hlt := hW.lt
  obtain ⟨p, q, hA0, hV, rfl, hfz, hnd⟩ := hW
  have hA : DataW.TrodAll enc Tryz.prog W 0 (fun _ => true) true Tryz.f3.params.toList args.toList ds p := hA0
  rw [Tryz.params3] at hA hval
  obtain ⟨v0, d0, rfl, rfl, h0⟩ := trodAll_one hA
  obtain ⟨rfl, rfl⟩ := trodVars_none hV
  obtain ⟨bs0, A0, cap0, x0, rfl, m0⟩ := open_glu (hval 0 24 v0 rfl rfl) h0
  refine (lw_GlueTwofold bs0 A0 cap0 x0 W hE m0).mono fun e W' hR => ?_
  obtain ⟨_, _, rfl, hs⟩ := hR
  have hb : RowKit.Below W.heap.size W W' := hs.old.below
  refine ⟨_, rfl, _, _, _, [], p, [], hW', trodAll_mk1 (shut_bool Tryz.underlying4 _), ?_, rfl, hb.frame _, fun h => by cases h⟩
  have k0 := Below.trod laidOut (by kernel_rfl) (of_decide_eq_true (by kernel_rfl)) h0 hb (fun x hx => hlt x (by simp [hx]))
  exact trodAll_mk1 k0
theorem glueTwofold_holds : Rows.GlueTwofoldSaid :=
  OpenClaim.holds_of_wide 3 Tryz.f3 rfl rfl rfl rfl rfl rfl rfl ⟨rfl, rfl, rfl, rfl, rfl⟩ rfl rfl rfl rfl rfl (by kernel_rfl) Tryz.func3 (by kernel_rfl)
    (of_decide_eq_true (by kernel_rfl)) (by unfold Func.isWrapper; first | (rw [if_pos (by decide +kernel)]; kernel_rfl) | (rw [if_neg (by decide +kernel)]; exact ⟨rfl, rfl⟩))
    (fun os started H enc _ => lifted os started H enc)
end Go.Proofs.YtbnfcbmpgjmhmaaGreatDoor
