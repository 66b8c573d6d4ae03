/- Unions and sums of the reference, chapter 22. -/
import Derived.Test.YtbodmnijpdffaaaDoorRs
import Derived.Test.YtbodmnijpdffaaaDoorDu
import Derived.Test.YtbodmnijpdffaaaDoorVf
import Derived.Test.YtbodmnijpdffaaaDoorProg
import Derived.KernelRfl
namespace Go.Proofs
open Go Go.V
set_option maxRecDepth 20000
theorem ref_there0 (base : Option Addr) (A : Addr) (cap : Nat) (d : Dia) (k : Int) (w : World) (_ : DiaAt w base A d) (h200 : d.cross.length ≤ 200) : Gives Tryd.prog 54 #[diaV base cap d, iv k] w Nil (fun _ : Unit => True) (fun _ => .bool (decide (0 ≤ k ∧ k < 2 * d.cross.length ∨ k = -1 ∧ 0 < d.loops))) (fun _ => []) := by
  refine fn_of_run (S := Nil) (args := [diaV base cap d, iv k]) (n := 24) (L := []) Tryd.func54 rfl Tryd.ntmps54 (Nat.le_of_ble_eq_true rfl) (Sym.nil _ _) ?_
  change RunC _ _ _ [(0, _), (1, _)] _
  refine RunC.seq ?_
  refine RunC.region ?_
  refine RunL.grows rfl rfl rfl (Grows.box rfl rfl) (fun b2 _ => ?_)
  refine RunL.still rfl rfl rfl (Still.assign rfl rfl) ?_
  refine RunL.nil ?_
  refine Ends.then ?_
  refine RunC.seq ?_
  refine RunC.region ?_
  refine RunL.still rfl rfl rfl (Still.move rfl rfl) ?_
  refine RunL.still rfl rfl rfl (Still.geq rfl rfl rfl) ?_
  refine RunL.still rfl rfl rfl (Still.move rfl rfl) ?_
  refine RunL.split (t := 7) rfl (fun h7 => ?_) (fun h7 => ?_)
  · have h7 := of_decide_eq_true h7
    refine RunL.still rfl rfl rfl (Still.move rfl rfl) ?_
    refine RunL.still rfl rfl rfl (Still.fieldAddrL (off := 0) (off' := 0) rfl rfl Tryd.underlying24 rfl Tryd.sizeOf22 rfl) ?_
    refine RunL.still rfl rfl rfl (Still.load rfl rfl Tryd.isAgg22 (fun _ hs => cell_nth (hs.at (i := 0) rfl) rfl)) ?_
    refine RunL.still rfl rfl rfl (Still.lenSlice rfl rfl Tryd.underlying22) ?_
    refine RunL.still rfl rfl rfl (Still.mul rfl rfl rfl (fits64 (by omega) (by omega))) ?_
    refine RunL.still rfl rfl rfl (Still.lss rfl rfl rfl) ?_
    refine RunL.still rfl rfl rfl (Still.pickT rfl rfl rfl) ?_
    refine RunL.still rfl rfl rfl (Still.move rfl rfl) ?_
    refine RunL.split (t := 15) rfl (fun h15 => ?_) (fun h15 => ?_)
    · have h15 := of_decide_eq_true h15
      refine RunL.off rfl rfl rfl ?_
      refine RunL.off rfl rfl rfl ?_
      refine RunL.off rfl rfl rfl ?_
      refine RunL.off rfl rfl rfl ?_
      refine RunL.off rfl rfl rfl ?_
      refine RunL.off rfl rfl rfl ?_
      refine RunL.off rfl rfl rfl ?_
      refine RunL.still rfl rfl rfl (Still.pickT rfl rfl rfl) ?_
      refine RunL.still rfl rfl rfl (Still.assign rfl rfl) ?_
      refine RunL.nil ?_
      refine Ends.then ?_
      refine RunC.ret ?_
      refine Ends.leave (.inl rfl) (fun _ _ ok => results1 Tryd.results54 (Holds.tmp rfl) ok) (fun w1 hs => ?_)
      exact Ret.intro () trivial (by first | exact congrArg Value.bool (decide_eq_true (by omega)).symm | exact congrArg Value.bool (decide_eq_false (by omega)).symm | exact congrArg Value.bool (decide_eq_decide.2 (by omega))) (HSub.nil _) hs
    · have h15 := of_decide_eq_false h15
      refine RunL.still rfl rfl rfl (Still.move rfl rfl) ?_
      refine RunL.still rfl rfl rfl (Still.eql rfl rfl rfl) ?_
      refine RunL.still rfl rfl rfl (Still.move rfl rfl) ?_
      refine RunL.split (t := 18) rfl (fun h18 => ?_) (fun h18 => ?_)
      · have h18 := of_decide_eq_true h18
        refine RunL.still rfl rfl rfl (Still.fieldAddrL (off := 0) (off' := 1) rfl rfl Tryd.underlying24 rfl Tryd.sizeOf3 rfl) ?_
        refine RunL.still rfl rfl rfl (Still.load rfl rfl Tryd.isAgg3 (fun _ hs => cell_nth (hs.at (i := 0) rfl) rfl)) ?_
        refine RunL.still rfl rfl rfl (Still.gtr rfl rfl rfl) ?_
        refine RunL.still rfl rfl rfl (Still.pickT rfl rfl rfl) ?_
        refine RunL.still rfl rfl rfl (Still.pickF rfl rfl rfl) ?_
        refine RunL.still rfl rfl rfl (Still.assign rfl rfl) ?_
        refine RunL.nil ?_
        refine Ends.then ?_
        refine RunC.ret ?_
        refine Ends.leave (.inl rfl) (fun _ _ ok => results1 Tryd.results54 (Holds.tmp rfl) ok) (fun w2 hs => ?_)
        exact Ret.intro () trivial (by first | exact congrArg Value.bool (decide_eq_true (by omega)).symm | exact congrArg Value.bool (decide_eq_false (by omega)).symm | exact congrArg Value.bool (decide_eq_decide.2 (by omega))) (HSub.nil _) hs
      · have h18 := of_decide_eq_false h18
        refine RunL.off rfl rfl rfl ?_
        refine RunL.off rfl rfl rfl ?_
        refine RunL.off rfl rfl rfl ?_
        refine RunL.still rfl rfl rfl (Still.pickF rfl rfl rfl) ?_
        refine RunL.still rfl rfl rfl (Still.pickF rfl rfl rfl) ?_
        refine RunL.still rfl rfl rfl (Still.assign rfl rfl) ?_
        refine RunL.nil ?_
        refine Ends.then ?_
        refine RunC.ret ?_
        refine Ends.leave (.inl rfl) (fun _ _ ok => results1 Tryd.results54 (Holds.tmp rfl) ok) (fun w3 hs => ?_)
        exact Ret.intro () trivial (by first | exact congrArg Value.bool (decide_eq_true (by omega)).symm | exact congrArg Value.bool (decide_eq_false (by omega)).symm | exact congrArg Value.bool (decide_eq_decide.2 (by omega))) (HSub.nil _) hs
  · have h7 := of_decide_eq_false h7
    refine RunL.off rfl rfl rfl ?_
    refine RunL.off rfl rfl rfl ?_
    refine RunL.off rfl rfl rfl ?_
    refine RunL.off rfl rfl rfl ?_
    refine RunL.off rfl rfl rfl ?_
    refine RunL.off rfl rfl rfl ?_
    refine RunL.still rfl rfl rfl (Still.pickF rfl rfl rfl) ?_
    refine RunL.still rfl rfl rfl (Still.move rfl rfl) ?_
    refine RunL.still rfl rfl rfl (Still.move rfl rfl) ?_
    refine RunL.still rfl rfl rfl (Still.eql rfl rfl rfl) ?_
    refine RunL.still rfl rfl rfl (Still.move rfl rfl) ?_
    refine RunL.split (t := 18) rfl (fun h18 => ?_) (fun h18 => ?_)
    · have h18 := of_decide_eq_true h18
      refine RunL.still rfl rfl rfl (Still.fieldAddrL (off := 0) (off' := 1) rfl rfl Tryd.underlying24 rfl Tryd.sizeOf3 rfl) ?_
      refine RunL.still rfl rfl rfl (Still.load rfl rfl Tryd.isAgg3 (fun _ hs => cell_nth (hs.at (i := 0) rfl) rfl)) ?_
      refine RunL.still rfl rfl rfl (Still.gtr rfl rfl rfl) ?_
      refine RunL.still rfl rfl rfl (Still.pickT rfl rfl rfl) ?_
      refine RunL.still rfl rfl rfl (Still.pickF rfl rfl rfl) ?_
      refine RunL.still rfl rfl rfl (Still.assign rfl rfl) ?_
      refine RunL.nil ?_
      refine Ends.then ?_
      refine RunC.ret ?_
      refine Ends.leave (.inl rfl) (fun _ _ ok => results1 Tryd.results54 (Holds.tmp rfl) ok) (fun w4 hs => ?_)
      exact Ret.intro () trivial (by first | exact congrArg Value.bool (decide_eq_true (by omega)).symm | exact congrArg Value.bool (decide_eq_false (by omega)).symm | exact congrArg Value.bool (decide_eq_decide.2 (by omega))) (HSub.nil _) hs
    · have h18 := of_decide_eq_false h18
      refine RunL.off rfl rfl rfl ?_
      refine RunL.off rfl rfl rfl ?_
      refine RunL.off rfl rfl rfl ?_
      refine RunL.still rfl rfl rfl (Still.pickF rfl rfl rfl) ?_
      refine RunL.still rfl rfl rfl (Still.pickF rfl rfl rfl) ?_
      refine RunL.still rfl rfl rfl (Still.assign rfl rfl) ?_
      refine RunL.nil ?_
      refine Ends.then ?_
      refine RunC.ret ?_
      refine Ends.leave (.inl rfl) (fun _ _ ok => results1 Tryd.results54 (Holds.tmp rfl) ok) (fun w5 hs => ?_)
      exact Ret.intro () trivial (by first | exact congrArg Value.bool (decide_eq_true (by omega)).symm | exact congrArg Value.bool (decide_eq_false (by omega)).symm | exact congrArg Value.bool (decide_eq_decide.2 (by omega))) (HSub.nil _) hs

theorem ref_there_yes (base : Option Addr) (A : Addr) (cap : Nat) (d : Dia) (k : Int) (w : World) (hd : DiaAt w base A d) (h200 : d.cross.length ≤ 200) (hk : thereP d k) : Gives Tryd.prog 54 #[diaV base cap d, iv k] w Nil (fun _ : Unit => True) (fun _ => .bool true) (fun _ => []) := by
  have h := ref_there0 base A cap d k w hd h200
  rwa [decide_eq_true (show 0 ≤ k ∧ k < 2 * (d.cross.length : Int) ∨ k = -1 ∧ 0 < d.loops from hk)] at h
theorem ref_there_no (base : Option Addr) (A : Addr) (cap : Nat) (d : Dia) (k : Int) (w : World) (hd : DiaAt w base A d) (h200 : d.cross.length ≤ 200) (hk : ¬ thereP d k) : Gives Tryd.prog 54 #[diaV base cap d, iv k] w Nil (fun _ : Unit => True) (fun _ => .bool false) (fun _ => []) := by
  have h := ref_there0 base A cap d k w hd h200
  rwa [decide_eq_false (show ¬ (0 ≤ k ∧ k < 2 * (d.cross.length : Int) ∨ k = -1 ∧ 0 < d.loops) from hk)] at h

theorem ref_Union_lim (ba : Option Addr) (A : Addr) (ca : Nat) (a : Dia) (bb : Option Addr) (B : Addr) (cb : Nat) (b : Dia) (w : World) (_ : DiaAt w ba A a) (_ : DiaAt w bb B b) (sa : SoundP a) (sb : SoundP b) (hu : uniBad a b) : Gives Tryd.prog 31 #[diaV ba ca a, diaV bb cb b] w Nil (fun _ : Unit => True) (fun _ => .tuple #[.agg #[.slice none 0 0, iv 0], iv 2]) (fun _ => []) := by
  have a200 := sa.1
  have al0 := sa.2.1
  have al1 := sa.2.2.1
  have b200 := sb.1
  have bl0 := sb.2.1
  have bl1 := sb.2.2.1
  have hu2 : 200 < (a.cross.length : Int) + b.cross.length ∨ 200 < a.loops + b.loops := by rcases hu with h | h; (left; omega); exact .inr h
  refine fn_of_run (S := Nil) (args := [diaV ba ca a, diaV bb cb b]) (n := 71) (L := []) Tryd.func31 rfl Tryd.ntmps31 (Nat.le_of_ble_eq_true rfl) (Sym.nil _ _) ?_
  change RunC _ _ _ [(0, _), (1, _)] _
  refine RunC.seq ?_
  refine RunC.region ?_
  refine RunL.grows rfl rfl rfl (Grows.box rfl rfl) (fun b2 _ => ?_)
  refine RunL.grows rfl rfl rfl (Grows.box rfl rfl) (fun b3 _ => ?_)
  refine RunL.grows rfl rfl rfl (Grows.alloc rfl Tryd.zeroValue24) (fun b4 _ => ?_)
  refine RunL.still rfl rfl rfl (Still.assign rfl rfl) ?_
  refine RunL.nil ?_
  refine Ends.then ?_
  refine RunC.seq ?_
  refine RunC.seq ?_
  refine RunC.meet1 (chg := [(25, .bool (decide (200 < (a.cross.length : Int) + b.cross.length ∨ 200 < a.loops + b.loops)))]) (keep := [(2, _), (3, _), (4, _)]) (hkeep := [_, _, _]) (Fr.Sub.cons rfl (Fr.Sub.cons rfl (Fr.Sub.cons rfl (Fr.Sub.nil _)))) (HSub.pick 0 rfl (HSub.pick 0 rfl (HSub.pick 0 rfl (HSub.nil _)))) ?_ ?_
  ·
    refine RunC.region ?_
    refine RunL.still rfl rfl rfl (Still.fieldAddrL (off := 0) (off' := 0) rfl rfl Tryd.underlying24 rfl Tryd.sizeOf22 rfl) ?_
    refine RunL.still rfl rfl rfl (Still.load rfl rfl Tryd.isAgg22 (fun _ hs => cell_nth (hs.at (i := 2) rfl) rfl)) ?_
    refine RunL.still rfl rfl rfl (Still.lenSlice rfl rfl Tryd.underlying22) ?_
    refine RunL.still rfl rfl rfl (Still.fieldAddrL (off := 0) (off' := 0) rfl rfl Tryd.underlying24 rfl Tryd.sizeOf22 rfl) ?_
    refine RunL.still rfl rfl rfl (Still.load rfl rfl Tryd.isAgg22 (fun _ hs => cell_nth (hs.at (i := 1) rfl) rfl)) ?_
    refine RunL.still rfl rfl rfl (Still.lenSlice rfl rfl Tryd.underlying22) ?_
    refine RunL.still rfl rfl rfl (Still.add rfl rfl rfl (fits64 (by omega) (by omega))) ?_
    refine RunL.still rfl rfl rfl (Still.gtr rfl rfl rfl) ?_
    refine RunL.still rfl rfl rfl (Still.move rfl rfl) ?_
    refine RunL.split (t := 18) rfl (fun h18 => ?_) (fun h18 => ?_)
    · have h18 := of_decide_eq_true h18
      refine RunL.off rfl rfl rfl ?_
      refine RunL.off rfl rfl rfl ?_
      refine RunL.off rfl rfl rfl ?_
      refine RunL.off rfl rfl rfl ?_
      refine RunL.off rfl rfl rfl ?_
      refine RunL.off rfl rfl rfl ?_
      refine RunL.still rfl rfl rfl (Still.pickT rfl rfl rfl) ?_
      refine RunL.nil ?_
      exact Ends.meet1 (Fr.Sub.cons (by first | exact congrArg (fun b => some (Value.bool b)) (decide_eq_true (by omega)).symm | exact congrArg (fun b => some (Value.bool b)) (decide_eq_false (by omega)).symm | exact congrArg (fun b => some (Value.bool b)) (decide_eq_decide.2 (by omega))) (Fr.Sub.nil _)) (Fr.Sub.cons rfl (Fr.Sub.cons rfl (Fr.Sub.cons rfl (Fr.Sub.nil _)))) (HSub.pick 0 rfl (HSub.pick 0 rfl (HSub.pick 0 rfl (HSub.nil _))))
    · have h18 := of_decide_eq_false h18
      refine RunL.still rfl rfl rfl (Still.fieldAddrL (off := 0) (off' := 1) rfl rfl Tryd.underlying24 rfl Tryd.sizeOf3 rfl) ?_
      refine RunL.still rfl rfl rfl (Still.load rfl rfl Tryd.isAgg3 (fun _ hs => cell_nth (hs.at (i := 2) rfl) rfl)) ?_
      refine RunL.still rfl rfl rfl (Still.fieldAddrL (off := 0) (off' := 1) rfl rfl Tryd.underlying24 rfl Tryd.sizeOf3 rfl) ?_
      refine RunL.still rfl rfl rfl (Still.load rfl rfl Tryd.isAgg3 (fun _ hs => cell_nth (hs.at (i := 1) rfl) rfl)) ?_
      refine RunL.still rfl rfl rfl (Still.add rfl rfl rfl (fits64 (by omega) (by omega))) ?_
      refine RunL.still rfl rfl rfl (Still.gtr rfl rfl rfl) ?_
      refine RunL.still rfl rfl rfl (Still.pickF rfl rfl rfl) ?_
      refine RunL.nil ?_
      exact Ends.meet1 (Fr.Sub.cons (by first | exact congrArg (fun b => some (Value.bool b)) (decide_eq_true (by omega)).symm | exact congrArg (fun b => some (Value.bool b)) (decide_eq_false (by omega)).symm | exact congrArg (fun b => some (Value.bool b)) (decide_eq_decide.2 (by omega))) (Fr.Sub.nil _)) (Fr.Sub.cons rfl (Fr.Sub.cons rfl (Fr.Sub.cons rfl (Fr.Sub.nil _)))) (HSub.pick 0 rfl (HSub.pick 0 rfl (HSub.pick 0 rfl (HSub.nil _))))
  ·
    refine Ends.then ?_
    refine RunC.cond rfl (fun h25 => ?_) (fun h25 => ?_)
    · have h25 := of_decide_eq_true h25
      refine RunC.seq ?_
      refine RunC.region ?_
      refine RunL.still rfl rfl rfl (Still.build_0 (.agg #[.slice none 0 0, .int .i64 0]) rfl (fun _ => by kernel_rfl)) ?_
      refine RunL.does0 rfl rfl (Does.store rfl rfl rfl (i := 0) rfl Tryd.sizeOf24 rfl (rfl) rfl) (fun _ _ => ?_)
      refine RunL.still rfl rfl rfl (Still.assign rfl rfl) ?_
      refine RunL.nil ?_
      refine Ends.then ?_
      refine RunC.ret ?_
      refine Ends.then_ret ?_
      refine Ends.leave (.inl rfl) (fun _ _ ok => results2 Tryd.results31 (Holds.cell rfl (fun _ hs => load_cells (vs := [_, _]) Tryd.isAgg24 Tryd.sizeOf24 rfl (cells_nth (hs.at (i := 0) rfl) ⟨rfl, ⟨rfl, trivial⟩⟩))) (Holds.tmp rfl) ok) (fun w1 hs => ?_)
      exact Ret.intro () trivial rfl (HSub.nil _) hs
    · have h25 := of_decide_eq_false h25
      exact absurd hu2 h25

theorem ownD_uni (a b : Dia) (vb : Option Addr) (vc : Nat) : ownD (vb, vc) (uniD a b) = HL.own 69 5 (.slice vb (a.cross.length + b.cross.length) vc) (a.cross.length + b.cross.length) ((a.cross ++ (b.cross.take b.cross.length).map (shCr (2 * (a.cross.length : Int)))).flatMap encCr) := by
  rw [ownD, uniD_len, List.take_length]; rfl

theorem ref_Union_nil (ba : Option Addr) (A : Addr) (ca : Nat) (a : Dia) (bb : Option Addr) (B : Addr) (cb : Nat) (b : Dia) (w : World) (_ : DiaAt w ba A a) (hdb : DiaAt w bb B b) (sa : SoundP a) (sb : SoundP b) (hu : ¬ uniBad a b) (ha0 : a.cross.length = 0) : Gives Tryd.prog 31 #[diaV ba ca a, diaV bb cb b] w Nil (fun q : Option Addr × Nat => OKB q (uniD a b).cross.length) (fun q => .tuple #[diaV q.1 q.2 (uniD a b), iv 0]) (fun q => [ownD q (uniD a b)]) := by
  have a200 := sa.1
  have al0 := sa.2.1
  have al1 := sa.2.2.1
  have b200 := sb.1
  have bl0 := sb.2.1
  have bl1 := sb.2.2.1
  have hu1 : a.cross.length + b.cross.length ≤ 200 := Nat.le_of_not_lt fun k => hu (.inl k)
  have hu2 : a.loops + b.loops ≤ 200 := Int.not_lt.1 fun k => hu (.inr k)
  refine fn_of_run (S := Nil) (args := [diaV ba ca a, diaV bb cb b]) (n := 71) (L := []) Tryd.func31 rfl Tryd.ntmps31 (Nat.le_of_ble_eq_true rfl) (Sym.nil _ _) ?_
  change RunC _ _ _ [(0, _), (1, _)] _
  refine RunC.seq ?_
  refine RunC.region ?_
  refine RunL.grows rfl rfl rfl (Grows.box rfl rfl) (fun b2 _ => ?_)
  refine RunL.grows rfl rfl rfl (Grows.box rfl rfl) (fun b3 _ => ?_)
  refine RunL.grows rfl rfl rfl (Grows.alloc rfl Tryd.zeroValue24) (fun b4 _ => ?_)
  refine RunL.still rfl rfl rfl (Still.assign rfl rfl) ?_
  refine RunL.nil ?_
  refine Ends.then ?_
  refine RunC.seq ?_
  refine RunC.seq ?_
  refine RunC.meet1 (chg := [(25, .bool (decide (200 < (a.cross.length : Int) + b.cross.length ∨ 200 < a.loops + b.loops)))]) (keep := [(2, _), (3, _), (4, _)]) (hkeep := [_, _, _]) (Fr.Sub.cons rfl (Fr.Sub.cons rfl (Fr.Sub.cons rfl (Fr.Sub.nil _)))) (HSub.pick 0 rfl (HSub.pick 0 rfl (HSub.pick 0 rfl (HSub.nil _)))) ?_ ?_
  ·
    refine RunC.region ?_
    refine RunL.still rfl rfl rfl (Still.fieldAddrL (off := 0) (off' := 0) rfl rfl Tryd.underlying24 rfl Tryd.sizeOf22 rfl) ?_
    refine RunL.still rfl rfl rfl (Still.load rfl rfl Tryd.isAgg22 (fun _ hs => cell_nth (hs.at (i := 2) rfl) rfl)) ?_
    refine RunL.still rfl rfl rfl (Still.lenSlice rfl rfl Tryd.underlying22) ?_
    refine RunL.still rfl rfl rfl (Still.fieldAddrL (off := 0) (off' := 0) rfl rfl Tryd.underlying24 rfl Tryd.sizeOf22 rfl) ?_
    refine RunL.still rfl rfl rfl (Still.load rfl rfl Tryd.isAgg22 (fun _ hs => cell_nth (hs.at (i := 1) rfl) rfl)) ?_
    refine RunL.still rfl rfl rfl (Still.lenSlice rfl rfl Tryd.underlying22) ?_
    refine RunL.still rfl rfl rfl (Still.add rfl rfl rfl (fits64 (by omega) (by omega))) ?_
    refine RunL.still rfl rfl rfl (Still.gtr rfl rfl rfl) ?_
    refine RunL.still rfl rfl rfl (Still.move rfl rfl) ?_
    refine RunL.split (t := 18) rfl (fun h18 => ?_) (fun h18 => ?_)
    · have h18 := of_decide_eq_true h18
      refine RunL.off rfl rfl rfl ?_
      refine RunL.off rfl rfl rfl ?_
      refine RunL.off rfl rfl rfl ?_
      refine RunL.off rfl rfl rfl ?_
      refine RunL.off rfl rfl rfl ?_
      refine RunL.off rfl rfl rfl ?_
      refine RunL.still rfl rfl rfl (Still.pickT rfl rfl rfl) ?_
      refine RunL.nil ?_
      exact Ends.meet1 (Fr.Sub.cons (by first | exact congrArg (fun b => some (Value.bool b)) (decide_eq_true (by omega)).symm | exact congrArg (fun b => some (Value.bool b)) (decide_eq_false (by omega)).symm | exact congrArg (fun b => some (Value.bool b)) (decide_eq_decide.2 (by omega))) (Fr.Sub.nil _)) (Fr.Sub.cons rfl (Fr.Sub.cons rfl (Fr.Sub.cons rfl (Fr.Sub.nil _)))) (HSub.pick 0 rfl (HSub.pick 0 rfl (HSub.pick 0 rfl (HSub.nil _))))
    · have h18 := of_decide_eq_false h18
      refine RunL.still rfl rfl rfl (Still.fieldAddrL (off := 0) (off' := 1) rfl rfl Tryd.underlying24 rfl Tryd.sizeOf3 rfl) ?_
      refine RunL.still rfl rfl rfl (Still.load rfl rfl Tryd.isAgg3 (fun _ hs => cell_nth (hs.at (i := 2) rfl) rfl)) ?_
      refine RunL.still rfl rfl rfl (Still.fieldAddrL (off := 0) (off' := 1) rfl rfl Tryd.underlying24 rfl Tryd.sizeOf3 rfl) ?_
      refine RunL.still rfl rfl rfl (Still.load rfl rfl Tryd.isAgg3 (fun _ hs => cell_nth (hs.at (i := 1) rfl) rfl)) ?_
      refine RunL.still rfl rfl rfl (Still.add rfl rfl rfl (fits64 (by omega) (by omega))) ?_
      refine RunL.still rfl rfl rfl (Still.gtr rfl rfl rfl) ?_
      refine RunL.still rfl rfl rfl (Still.pickF rfl rfl rfl) ?_
      refine RunL.nil ?_
      exact Ends.meet1 (Fr.Sub.cons (by first | exact congrArg (fun b => some (Value.bool b)) (decide_eq_true (by omega)).symm | exact congrArg (fun b => some (Value.bool b)) (decide_eq_false (by omega)).symm | exact congrArg (fun b => some (Value.bool b)) (decide_eq_decide.2 (by omega))) (Fr.Sub.nil _)) (Fr.Sub.cons rfl (Fr.Sub.cons rfl (Fr.Sub.cons rfl (Fr.Sub.nil _)))) (HSub.pick 0 rfl (HSub.pick 0 rfl (HSub.pick 0 rfl (HSub.nil _))))
  ·
    refine Ends.then ?_
    refine RunC.cond rfl (fun h25 => ?_) (fun h25 => ?_)
    · skip
      exact absurd (of_decide_eq_true h25) (by omega)
    · skip
      refine RunC.skip ?_
      refine Ends.then ?_
      refine RunC.seq ?_
      refine RunC.meetG (γ := Nat × Value) (keep := [(2, _), (3, _), (4, _)]) (hkeep := [_, _, _]) (fun (b6, v) => Shape v a.cross.length) (fun (b6, v) => [(6, .pointer (some ⟨b6, 0, none⟩))]) (fun (b6, v) => [HL.obj b6 (.cells #[v, iv (a.loops + b.loops)] 24 (0, 0)), HL.own 69 5 v a.cross.length (a.cross.flatMap encCr)]) (Fr.Sub.cons rfl (Fr.Sub.cons rfl (Fr.Sub.cons rfl (Fr.Sub.nil _)))) (HSub.pick 0 rfl (HSub.pick 0 rfl (HSub.pick 0 rfl (HSub.nil _)))) ?_ ?_
      ·
        refine RunC.draw 11 (.still 1 (.still 2 (.still 4 (.still 5 (.still 6 (.still 7 (.still 8 (.two 0 (.still 3 (.still 9 (.one 10 .done))) 10 (.one 0 (.still 3 (.still 9 .done))))))))))) (by kernel_rfl) (by kernel_rfl) ?_
        refine RunG.still rfl rfl rfl rfl (Still.fieldAddrL (off := 0) (off' := 0) rfl rfl Tryd.underlying24 rfl Tryd.sizeOf22 rfl) ?_
        refine RunG.still rfl rfl rfl rfl (Still.load rfl rfl Tryd.isAgg22 (fun _ hs => cell_nth (hs.at (i := 2) rfl) rfl)) ?_
        refine RunG.still rfl rfl rfl rfl (Still.fieldAddrL (off := 0) (off' := 1) rfl rfl Tryd.underlying24 rfl Tryd.sizeOf3 rfl) ?_
        refine RunG.still rfl rfl rfl rfl (Still.load rfl rfl Tryd.isAgg3 (fun _ hs => cell_nth (hs.at (i := 2) rfl) rfl)) ?_
        refine RunG.still rfl rfl rfl rfl (Still.fieldAddrL (off := 0) (off' := 1) rfl rfl Tryd.underlying24 rfl Tryd.sizeOf3 rfl) ?_
        refine RunG.still rfl rfl rfl rfl (Still.load rfl rfl Tryd.isAgg3 (fun _ hs => cell_nth (hs.at (i := 1) rfl) rfl)) ?_
        refine RunG.still rfl rfl rfl rfl (Still.add rfl rfl rfl (fits64 (by omega) (by omega))) ?_
        refine RunG.two ?_ ?_
        ·
          refine RunG.grows rfl rfl rfl rfl (Grows.empty rfl Tryd.underlying22 Tryd.sizeOf69 Tryd.zeroValue69) (fun b27 _ => ?_)
          refine RunG.still rfl rfl rfl rfl (Still.appendNil rfl rfl rfl rfl ha0 (i := 0) rfl Tryd.underlying22 (by kernel_rfl : Tryd.prog.info? 69 = some Tryd.t69)) ?_
          refine RunG.still rfl rfl rfl rfl (Still.build_1_1 (fun x0_0 x1_0 => .agg #[x0_0, x1_0]) rfl rfl rfl (fun _ => by kernel_rfl)) ?_
          refine RunG.grows rfl rfl rfl rfl (Grows.alloc rfl Tryd.zeroValue24) (fun b6 _ => ?_)
          refine RunG.done ?_
          show RunL _ _ _ [_] _ _
          refine RunL.does0 rfl rfl (Does.store rfl rfl rfl (i := 0) rfl Tryd.sizeOf24 rfl (rfl) rfl) (fun _ _ => ?_)
          refine RunL.nil ?_
          exact Ends.meetG (b6, .slice (some ⟨b27, 0, none⟩) 0 0) (by show Shape _ _; rw [ha0]; exact ⟨_, _, rfl, fun h => by omega⟩) (Fr.Sub.cons rfl (Fr.Sub.nil _)) (Fr.Sub.cons rfl (Fr.Sub.cons rfl (Fr.Sub.cons rfl (Fr.Sub.nil _)))) (HSub.pick 0 rfl (HSub.pick 0 (by rw [ha0, List.length_eq_zero_iff.1 ha0]; rfl) (HSub.pick 0 rfl (HSub.pick 0 rfl (HSub.pick 0 rfl (HSub.nil _))))))
        ·
          refine RunG.grows rfl rfl rfl rfl (Grows.alloc rfl Tryd.zeroValue24) (fun b6 _ => ?_)
          refine RunG.grows rfl rfl rfl rfl (Grows.empty rfl Tryd.underlying22 Tryd.sizeOf69 Tryd.zeroValue69) (fun b27 _ => ?_)
          refine RunG.still rfl rfl rfl rfl (Still.appendNil rfl rfl rfl rfl ha0 (i := 0) rfl Tryd.underlying22 (by kernel_rfl : Tryd.prog.info? 69 = some Tryd.t69)) ?_
          refine RunG.still rfl rfl rfl rfl (Still.build_1_1 (fun x0_0 x1_0 => .agg #[x0_0, x1_0]) rfl rfl rfl (fun _ => by kernel_rfl)) ?_
          refine RunG.done ?_
          show RunL _ _ _ [_] _ _
          refine RunL.does0 rfl rfl (Does.store rfl rfl rfl (i := 1) rfl Tryd.sizeOf24 rfl (rfl) rfl) (fun _ _ => ?_)
          refine RunL.nil ?_
          exact Ends.meetG (b6, .slice (some ⟨b27, 0, none⟩) 0 0) (by show Shape _ _; rw [ha0]; exact ⟨_, _, rfl, fun h => by omega⟩) (Fr.Sub.cons rfl (Fr.Sub.nil _)) (Fr.Sub.cons rfl (Fr.Sub.cons rfl (Fr.Sub.cons rfl (Fr.Sub.nil _)))) (HSub.pick 1 rfl (HSub.pick 0 (by rw [ha0, List.length_eq_zero_iff.1 ha0]; rfl) (HSub.pick 0 rfl (HSub.pick 0 rfl (HSub.pick 0 rfl (HSub.nil _))))))
      · rintro ⟨b6, v⟩ hv0
        obtain ⟨vb0, vc0, hvv0, hvb0⟩ := hv0
        change v = _ at hvv0
        subst hvv0
        refine Ends.then ?_
        refine RunC.seq ?_
        refine RunC.seq ?_
        refine RunC.region ?_
        refine RunL.still rfl rfl rfl (Still.assign rfl rfl) ?_
        refine RunL.nil ?_
        refine Ends.then ?_
        refine RunC.block ?_
        refine RunC.loop2 (γ := Value × Nat) (keep := [(2, _), (3, _), (4, _), (6, _)]) (hkeep := [_, _, _]) (fun (v, c) => c ≤ b.cross.length) (fun (v, c) => b.cross.length - c) (fun (v, c) => [(7, iv c)]) (fun (v, c) => [HL.obj b6 (.cells #[v, iv (a.loops + b.loops)] 24 (0, 0)), HL.own 69 5 v (a.cross.length + c) ((a.cross ++ (b.cross.take c).map (shCr (2 * (a.cross.length : Int)))).flatMap encCr)]) (.slice vb0 a.cross.length vc0, 0) (by omega) (Fr.Sub.cons rfl (Fr.Sub.nil _)) (Fr.Sub.cons rfl (Fr.Sub.cons rfl (Fr.Sub.cons rfl (Fr.Sub.cons rfl (Fr.Sub.nil _))))) (HSub.pick 0 rfl (HSub.pick 0 (by rw [List.take_zero, List.map_nil, List.append_nil]; rfl) (HSub.pick 0 rfl (HSub.pick 0 rfl (HSub.pick 0 rfl (HSub.nil _)))))) ?_
        rintro ⟨v, c⟩ hcl
        refine RunC.seq ?_
        refine RunC.seq ?_
        refine RunC.region ?_
        refine RunL.still rfl rfl rfl (Still.move rfl rfl) ?_
        refine RunL.still rfl rfl rfl (Still.fieldAddrL (off := 0) (off' := 0) rfl rfl Tryd.underlying24 rfl Tryd.sizeOf22 rfl) ?_
        refine RunL.still rfl rfl rfl (Still.load rfl rfl Tryd.isAgg22 (fun _ hs => cell_nth (hs.at (i := 3) rfl) rfl)) ?_
        refine RunL.still rfl rfl rfl (Still.lenSlice rfl rfl Tryd.underlying22) ?_
        refine RunL.still rfl rfl rfl (Still.lss rfl rfl rfl) ?_
        refine RunL.nil ?_
        refine Ends.then ?_
        refine RunC.cond rfl (fun h41 => ?_) (fun h41 => ?_)
        · have h41 := of_decide_eq_true h41
          have hcl : c ≤ b.cross.length := hcl
          obtain ⟨x, hx⟩ := get_of_lt (l := b.cross) (i := c) (by omega)
          have hx0 : 0 ≤ x.a0 ∧ x.a0 < 2 * (b.cross.length : Int) := (sb.2.2.2.1 x (List.mem_of_getElem? hx)).2 0 (by omega)
          refine RunC.skip ?_
          refine Ends.then ?_
          refine RunC.seq ?_
          refine RunC.block ?_
          refine RunC.seq ?_
          refine RunC.region ?_
          refine RunL.still rfl rfl rfl (Still.fieldAddrL (off := 0) (off' := 0) rfl rfl Tryd.underlying24 rfl Tryd.sizeOf22 rfl) ?_
          refine RunL.still rfl rfl rfl (Still.load rfl rfl Tryd.isAgg22 (fun _ hs => cell_nth (hs.at (i := 3) rfl) rfl)) ?_
          refine RunL.still rfl rfl rfl (Still.move rfl rfl) ?_
          refine RunL.still rfl rfl rfl (Still.indexSliceN rfl rfl rfl Tryd.underlying22 Tryd.sizeOf69 (hdb.base (by omega)) (by omega)) ?_
          refine RunL.still rfl rfl rfl (Still.loads rfl rfl Tryd.isAgg69 Tryd.sizeOf69 (vs := encCr x) rfl (fun _ hs => Cells.base0 (hdb.cross hx) hs)) ?_
          refine RunL.grows rfl rfl rfl (Grows.alloc rfl Tryd.zeroValue69) (fun b8 _ => ?_)
          refine RunL.does0 rfl rfl (Does.store rfl rfl rfl (i := 0) rfl Tryd.sizeOf69 rfl (rfl) rfl) (fun _ _ => ?_)
          refine RunL.conv (fun _ hs => Sym.obj_own (k := 5) (n := 1) hs rfl (by omega)) ?_
          refine RunL.nil ?_
          refine Ends.then ?_
          refine RunC.seq ?_
          refine RunC.seq ?_
          refine RunC.region ?_
          refine RunL.still rfl rfl rfl (Still.assign rfl rfl) ?_
          refine RunL.nil ?_
          refine Ends.then ?_
          refine RunC.block ?_
          refine RunC.loop2 (γ := Nat) (keep := [(2, _), (3, _), (4, _), (6, _), (7, _), (8, _)]) (hkeep := [_, _, _, _, _]) (fun p => p ≤ 4) (fun p => 4 - p) (fun p => [(9, iv p)]) (fun p => [HL.own 69 5 (.slice (some ⟨b8, 0, none⟩) 1 1) 1 (encCr (shTo (2 * (a.cross.length : Int)) x p))]) 0 (by omega) (Fr.Sub.cons rfl (Fr.Sub.nil _)) (Fr.Sub.cons rfl (Fr.Sub.cons rfl (Fr.Sub.cons rfl (Fr.Sub.cons rfl (Fr.Sub.cons rfl (Fr.Sub.cons rfl (Fr.Sub.nil _))))))) (HSub.pick 0 rfl (HSub.pick 0 rfl (HSub.pick 0 rfl (HSub.pick 0 rfl (HSub.pick 0 rfl (HSub.pick 0 rfl (HSub.nil _))))))) ?_
          rintro p hp
          refine RunC.seq ?_
          refine RunC.seq ?_
          refine RunC.region ?_
          refine RunL.still rfl rfl rfl (Still.move rfl rfl) ?_
          refine RunL.still rfl rfl rfl (Still.lss rfl rfl rfl) ?_
          refine RunL.nil ?_
          refine Ends.then ?_
          refine RunC.cond rfl (fun h50 => ?_) (fun h50 => ?_)
          · have h50 := of_decide_eq_true h50
            have hp4 : p < 4 := by omega
            have hxp : 0 ≤ x.arc p ∧ x.arc p < 2 * (b.cross.length : Int) := (sb.2.2.2.1 x (List.mem_of_getElem? hx)).2 p hp4
            refine RunC.skip ?_
            refine Ends.then ?_
            refine RunC.seq ?_
            refine RunC.block ?_
            refine RunC.draw 11 (.still 0 (.still 1 (.still 2 (.still 3 (.still 4 (.still 5 (.still 6 (.still 7 (.still 8 (.still 9 (.still 10 .done))))))))))) (by kernel_rfl) (by kernel_rfl) ?_
            refine RunG.still rfl rfl rfl rfl (Still.move rfl rfl) ?_
            refine RunG.still rfl rfl rfl rfl (Still.fieldAddrA (off := 0) rfl rfl Tryd.underlying69 rfl Tryd.sizeOf67 rfl) ?_
            refine RunG.still rfl rfl rfl rfl (Still.indexArrN rfl rfl rfl Tryd.underlying67 Tryd.sizeOf3 (by omega)) ?_
            refine RunG.still rfl rfl rfl rfl (Still.load rfl rfl Tryd.isAgg3 (fun w hs => own_at2 (hs.own (i := 0) rfl) ((show (encCr (shTo (2 * (a.cross.length : Int)) x p))[0 + p * 1]? = _ by rw [Nat.zero_add, Nat.mul_one]; exact shTo_get _ _ hp4)))) ?_
            refine RunG.still rfl rfl rfl rfl (Still.fieldAddrL (off := 0) (off' := 0) rfl rfl Tryd.underlying24 rfl Tryd.sizeOf22 rfl) ?_
            refine RunG.still rfl rfl rfl rfl (Still.load rfl rfl Tryd.isAgg22 (fun _ hs => cell_nth (hs.at (i := 5) rfl) rfl)) ?_
            refine RunG.still rfl rfl rfl rfl (Still.lenSlice rfl rfl Tryd.underlying22) ?_
            refine RunG.still rfl rfl rfl rfl (Still.mul rfl rfl rfl (fits64 (by omega) (by omega))) ?_
            refine RunG.still rfl rfl rfl rfl (Still.add rfl rfl rfl (fits64 (by omega) (by omega))) ?_
            refine RunG.still rfl rfl rfl rfl (Still.fieldAddrA (off := 0) rfl rfl Tryd.underlying69 rfl Tryd.sizeOf67 rfl) ?_
            refine RunG.still rfl rfl rfl rfl (Still.indexArrN rfl rfl rfl Tryd.underlying67 Tryd.sizeOf3 (by omega)) ?_
            refine RunG.done ?_
            show RunL _ _ _ [_] _ _
            refine RunL.does0 rfl rfl (Does.storeOwn1 (xs' := (encCr (shTo (2 * (a.cross.length : Int)) x (p + 1)))) rfl rfl (add_add _ _ _) rfl (i := 0) rfl Tryd.sizeOf3 rfl (by rw [encCr_len]; omega) (by rw [Nat.zero_add, Nat.mul_one]; exact shTo_set _ _ hp4)) (fun _ _ => ?_)
            refine RunL.nil ?_
            refine Ends.block ?_
            refine Ends.then ?_
            refine RunC.region ?_
            refine RunL.still rfl rfl rfl (Still.move rfl rfl) ?_
            refine RunL.still rfl rfl rfl (Still.add rfl rfl rfl (fits64 (by omega) (by omega))) ?_
            refine RunL.still rfl rfl rfl (Still.assign rfl rfl) ?_
            refine RunL.nil ?_
            refine Ends.again (p + 1) ?_ ?_ (Fr.Sub.app ?_ ?_) ?_
            · show _; omega
            · show _ < _; omega
            · exact Fr.Sub.cons rfl (Fr.Sub.nil _)
            · exact Fr.Sub.cons rfl (Fr.Sub.cons rfl (Fr.Sub.cons rfl (Fr.Sub.cons rfl (Fr.Sub.cons rfl (Fr.Sub.cons rfl (Fr.Sub.nil _))))))
            · exact HSub.pick 0 rfl (HSub.pick 0 rfl (HSub.pick 0 rfl (HSub.pick 0 rfl (HSub.pick 0 rfl (HSub.pick 0 rfl (HSub.nil _))))))
          · have h50 := of_decide_eq_false h50
            obtain rfl : p = 4 := by omega
            refine RunC.exit ?_
            refine Ends.then_exit ?_
            refine Ends.then_exit ?_
            refine Ends.block_exit ?_
            refine Ends.then ?_
            refine RunC.region ?_
            refine RunL.still rfl rfl rfl (Still.fieldAddrL (off := 0) (off' := 0) rfl rfl Tryd.underlying24 rfl Tryd.sizeOf22 rfl) ?_
            refine RunL.still rfl rfl rfl (Still.load rfl rfl Tryd.isAgg22 (fun _ hs => cell_nth (hs.at (i := 1) rfl) rfl)) ?_
            refine RunL.still rfl rfl rfl (Still.loads rfl rfl Tryd.isAgg69 Tryd.sizeOf69 (vs := encCr (shCr (2 * (a.cross.length : Int)) x)) rfl (fun _ hs => own_cells (i := 0) (hs.own (i := 0) rfl) (fun j u h => by rw [Nat.zero_add]; exact h))) ?_
            refine RunL.grows rfl rfl rfl (Grows.slice1 rfl rfl Tryd.underlying22 Tryd.sizeOf69 rfl Tryd.zeroValue69 (by decide)) (fun b67 _ => ?_)
            refine RunL.does rfl rfl rfl (Does.appendTo (n' := (a.cross.length + (c + 1))) (xs' := (((a.cross ++ (b.cross.take c).map (shCr (2 * (a.cross.length : Int)))) ++ [shCr (2 * (a.cross.length : Int)) x]).flatMap encCr)) (news := [_, _, _, _, _]) rfl rfl rfl rfl (i := 3) rfl Tryd.underlying22 (by kernel_rfl : (_ : Option _) = some (some (.agg #[.int .i64 0, .int .i64 0, .int .i64 0, .int .i64 0, .int .i64 0]), 5, 40)) rfl rfl (fun _ hs => cells_nth (hs.at (i := 0) rfl) ⟨rfl, ⟨rfl, ⟨rfl, ⟨rfl, ⟨rfl, trivial⟩⟩⟩⟩⟩) rfl rfl (by omega) (by omega) (rfl) (cr_snoc rfl)) (fun v68 hv68 => ?_)
            refine RunL.know (fun _ hs => own_shape (hs.own (i := 3) rfl)) (fun hsh2 => ?_)
            obtain ⟨vb2, vc2, hvv2, _⟩ := hsh2
            subst hvv2
            refine RunL.still rfl rfl rfl (Still.fieldAddrL (off := 0) (off' := 0) rfl rfl Tryd.underlying24 rfl Tryd.sizeOf22 rfl) ?_
            refine RunL.does0 rfl rfl (Does.store1 rfl rfl rfl (i := 2) rfl Tryd.sizeOf22 rfl (rfl)) (fun _ _ => ?_)
            refine RunL.nil ?_
            refine Ends.block ?_
            refine Ends.then ?_
            refine RunC.region ?_
            refine RunL.still rfl rfl rfl (Still.move rfl rfl) ?_
            refine RunL.still rfl rfl rfl (Still.add rfl rfl rfl (fits64 (by omega) (by omega))) ?_
            refine RunL.still rfl rfl rfl (Still.assign rfl rfl) ?_
            refine RunL.nil ?_
            refine Ends.again ((Value.slice vb2 (a.cross.length + (c + 1)) vc2), c + 1) ?_ ?_ (Fr.Sub.app ?_ ?_) ?_
            · show c + 1 ≤ _; omega
            · show _ - (c + 1) < _ - c; omega
            · exact Fr.Sub.cons rfl (Fr.Sub.nil _)
            · exact Fr.Sub.cons rfl (Fr.Sub.cons rfl (Fr.Sub.cons rfl (Fr.Sub.cons rfl (Fr.Sub.nil _))))
            · exact HSub.pick 2 rfl (HSub.pick 2 (by rw [List.take_add_one, hx]; simp only [Option.toList_some, List.map_append, List.map_cons, List.map_nil, List.append_assoc]; rfl) (HSub.pick 2 rfl (HSub.pick 2 rfl (HSub.pick 2 rfl (HSub.nil _)))))
        · have h41 := of_decide_eq_false h41
          have hcl : c ≤ b.cross.length := hcl
          obtain rfl : c = b.cross.length := by omega
          refine RunC.exit ?_
          refine Ends.then_exit ?_
          refine Ends.then_exit ?_
          refine Ends.block_exit ?_
          refine Ends.then ?_
          refine RunC.seq ?_
          refine RunC.region ?_
          refine RunL.know (fun _ hs => own_shape (hs.own (i := 1) rfl)) (fun hsh => ?_)
          obtain ⟨vb, vc, hvv, hvb⟩ := hsh
          subst hvv
          refine RunL.still rfl rfl rfl (Still.loads rfl rfl Tryd.isAgg24 Tryd.sizeOf24 (vs := [_, _]) rfl (fun _ hs => cells_nth (hs.at (i := 0) rfl) ⟨rfl, ⟨rfl, trivial⟩⟩)) ?_
          refine RunL.does0 rfl rfl (Does.store rfl rfl rfl (i := 2) rfl Tryd.sizeOf24 rfl (rfl) rfl) (fun _ _ => ?_)
          refine RunL.still rfl rfl rfl (Still.assign rfl rfl) ?_
          refine RunL.nil ?_
          refine Ends.then ?_
          refine RunC.ret ?_
          refine Ends.leave (.inl rfl) (fun _ _ ok => results2 Tryd.results31 (Holds.cell rfl (fun _ hs => load_cells (vs := [_, _]) Tryd.isAgg24 Tryd.sizeOf24 rfl (cells_nth (hs.at (i := 2) rfl) ⟨rfl, ⟨rfl, trivial⟩⟩))) (Holds.tmp rfl) ok) (fun w1 hs => ?_)
          exact Ret.intro (vb, vc) (by rw [OKB, uniD_len]; exact hvb) (by show _ = Value.tuple #[diaV vb vc (uniD a b), iv 0]; simp only [diaV, uniD_len]; rfl) (HSub.pick 1 (by rw [ownD_uni]; rfl) (HSub.nil _)) hs

theorem ref_Union_cons (A : Addr) (ca : Nat) (a : Dia) (bb : Option Addr) (B : Addr) (cb : Nat) (b : Dia) (w : World) (hda : DiaAt w (some A) A a) (hdb : DiaAt w bb B b) (sa : SoundP a) (sb : SoundP b) (hu : ¬ uniBad a b) (ha0 : 0 < a.cross.length) : Gives Tryd.prog 31 #[diaV (some A) ca a, diaV bb cb b] w Nil (fun q : Option Addr × Nat => OKB q (uniD a b).cross.length) (fun q => .tuple #[diaV q.1 q.2 (uniD a b), iv 0]) (fun q => [ownD q (uniD a b)]) := by
  have a200 := sa.1
  have al0 := sa.2.1
  have al1 := sa.2.2.1
  have b200 := sb.1
  have bl0 := sb.2.1
  have bl1 := sb.2.2.1
  have hu1 : a.cross.length + b.cross.length ≤ 200 := Nat.le_of_not_lt fun k => hu (.inl k)
  have hu2 : a.loops + b.loops ≤ 200 := Int.not_lt.1 fun k => hu (.inr k)
  refine fn_of_run (S := Nil) (args := [diaV (some A) ca a, diaV bb cb b]) (n := 71) (L := []) Tryd.func31 rfl Tryd.ntmps31 (Nat.le_of_ble_eq_true rfl) (Sym.nil _ _) ?_
  change RunC _ _ _ [(0, _), (1, _)] _
  refine RunC.seq ?_
  refine RunC.region ?_
  refine RunL.grows rfl rfl rfl (Grows.box rfl rfl) (fun b2 _ => ?_)
  refine RunL.grows rfl rfl rfl (Grows.box rfl rfl) (fun b3 _ => ?_)
  refine RunL.grows rfl rfl rfl (Grows.alloc rfl Tryd.zeroValue24) (fun b4 _ => ?_)
  refine RunL.still rfl rfl rfl (Still.assign rfl rfl) ?_
  refine RunL.nil ?_
  refine Ends.then ?_
  refine RunC.seq ?_
  refine RunC.seq ?_
  refine RunC.meet1 (chg := [(25, .bool (decide (200 < (a.cross.length : Int) + b.cross.length ∨ 200 < a.loops + b.loops)))]) (keep := [(2, _), (3, _), (4, _)]) (hkeep := [_, _, _]) (Fr.Sub.cons rfl (Fr.Sub.cons rfl (Fr.Sub.cons rfl (Fr.Sub.nil _)))) (HSub.pick 0 rfl (HSub.pick 0 rfl (HSub.pick 0 rfl (HSub.nil _)))) ?_ ?_
  ·
    refine RunC.region ?_
    refine RunL.still rfl rfl rfl (Still.fieldAddrL (off := 0) (off' := 0) rfl rfl Tryd.underlying24 rfl Tryd.sizeOf22 rfl) ?_
    refine RunL.still rfl rfl rfl (Still.load rfl rfl Tryd.isAgg22 (fun _ hs => cell_nth (hs.at (i := 2) rfl) rfl)) ?_
    refine RunL.still rfl rfl rfl (Still.lenSlice rfl rfl Tryd.underlying22) ?_
    refine RunL.still rfl rfl rfl (Still.fieldAddrL (off := 0) (off' := 0) rfl rfl Tryd.underlying24 rfl Tryd.sizeOf22 rfl) ?_
    refine RunL.still rfl rfl rfl (Still.load rfl rfl Tryd.isAgg22 (fun _ hs => cell_nth (hs.at (i := 1) rfl) rfl)) ?_
    refine RunL.still rfl rfl rfl (Still.lenSlice rfl rfl Tryd.underlying22) ?_
    refine RunL.still rfl rfl rfl (Still.add rfl rfl rfl (fits64 (by omega) (by omega))) ?_
    refine RunL.still rfl rfl rfl (Still.gtr rfl rfl rfl) ?_
    refine RunL.still rfl rfl rfl (Still.move rfl rfl) ?_
    refine RunL.split (t := 18) rfl (fun h18 => ?_) (fun h18 => ?_)
    · have h18 := of_decide_eq_true h18
      refine RunL.off rfl rfl rfl ?_
      refine RunL.off rfl rfl rfl ?_
      refine RunL.off rfl rfl rfl ?_
      refine RunL.off rfl rfl rfl ?_
      refine RunL.off rfl rfl rfl ?_
      refine RunL.off rfl rfl rfl ?_
      refine RunL.still rfl rfl rfl (Still.pickT rfl rfl rfl) ?_
      refine RunL.nil ?_
      exact Ends.meet1 (Fr.Sub.cons (by first | exact congrArg (fun b => some (Value.bool b)) (decide_eq_true (by omega)).symm | exact congrArg (fun b => some (Value.bool b)) (decide_eq_false (by omega)).symm | exact congrArg (fun b => some (Value.bool b)) (decide_eq_decide.2 (by omega))) (Fr.Sub.nil _)) (Fr.Sub.cons rfl (Fr.Sub.cons rfl (Fr.Sub.cons rfl (Fr.Sub.nil _)))) (HSub.pick 0 rfl (HSub.pick 0 rfl (HSub.pick 0 rfl (HSub.nil _))))
    · have h18 := of_decide_eq_false h18
      refine RunL.still rfl rfl rfl (Still.fieldAddrL (off := 0) (off' := 1) rfl rfl Tryd.underlying24 rfl Tryd.sizeOf3 rfl) ?_
      refine RunL.still rfl rfl rfl (Still.load rfl rfl Tryd.isAgg3 (fun _ hs => cell_nth (hs.at (i := 2) rfl) rfl)) ?_
      refine RunL.still rfl rfl rfl (Still.fieldAddrL (off := 0) (off' := 1) rfl rfl Tryd.underlying24 rfl Tryd.sizeOf3 rfl) ?_
      refine RunL.still rfl rfl rfl (Still.load rfl rfl Tryd.isAgg3 (fun _ hs => cell_nth (hs.at (i := 1) rfl) rfl)) ?_
      refine RunL.still rfl rfl rfl (Still.add rfl rfl rfl (fits64 (by omega) (by omega))) ?_
      refine RunL.still rfl rfl rfl (Still.gtr rfl rfl rfl) ?_
      refine RunL.still rfl rfl rfl (Still.pickF rfl rfl rfl) ?_
      refine RunL.nil ?_
      exact Ends.meet1 (Fr.Sub.cons (by first | exact congrArg (fun b => some (Value.bool b)) (decide_eq_true (by omega)).symm | exact congrArg (fun b => some (Value.bool b)) (decide_eq_false (by omega)).symm | exact congrArg (fun b => some (Value.bool b)) (decide_eq_decide.2 (by omega))) (Fr.Sub.nil _)) (Fr.Sub.cons rfl (Fr.Sub.cons rfl (Fr.Sub.cons rfl (Fr.Sub.nil _)))) (HSub.pick 0 rfl (HSub.pick 0 rfl (HSub.pick 0 rfl (HSub.nil _))))
  ·
    refine Ends.then ?_
    refine RunC.cond rfl (fun h25 => ?_) (fun h25 => ?_)
    · skip
      exact absurd (of_decide_eq_true h25) (by omega)
    · skip
      refine RunC.skip ?_
      refine Ends.then ?_
      refine RunC.seq ?_
      refine RunC.meetG (γ := Nat × Value) (keep := [(2, _), (3, _), (4, _)]) (hkeep := [_, _, _]) (fun (b6, v) => Shape v a.cross.length) (fun (b6, v) => [(6, .pointer (some ⟨b6, 0, none⟩))]) (fun (b6, v) => [HL.obj b6 (.cells #[v, iv (a.loops + b.loops)] 24 (0, 0)), HL.own 69 5 v a.cross.length (a.cross.flatMap encCr)]) (Fr.Sub.cons rfl (Fr.Sub.cons rfl (Fr.Sub.cons rfl (Fr.Sub.nil _)))) (HSub.pick 0 rfl (HSub.pick 0 rfl (HSub.pick 0 rfl (HSub.nil _)))) ?_ ?_
      ·
        refine RunC.draw 11 (.still 1 (.still 2 (.still 4 (.still 5 (.still 6 (.still 7 (.still 8 (.two 0 (.two 3 (.still 9 (.one 10 .done)) 10 (.one 3 (.still 9 .done))) 10 (.one 0 (.one 3 (.still 9 .done))))))))))) (by kernel_rfl) (by kernel_rfl) ?_
        refine RunG.still rfl rfl rfl rfl (Still.fieldAddrL (off := 0) (off' := 0) rfl rfl Tryd.underlying24 rfl Tryd.sizeOf22 rfl) ?_
        refine RunG.still rfl rfl rfl rfl (Still.load rfl rfl Tryd.isAgg22 (fun _ hs => cell_nth (hs.at (i := 2) rfl) rfl)) ?_
        refine RunG.still rfl rfl rfl rfl (Still.fieldAddrL (off := 0) (off' := 1) rfl rfl Tryd.underlying24 rfl Tryd.sizeOf3 rfl) ?_
        refine RunG.still rfl rfl rfl rfl (Still.load rfl rfl Tryd.isAgg3 (fun _ hs => cell_nth (hs.at (i := 2) rfl) rfl)) ?_
        refine RunG.still rfl rfl rfl rfl (Still.fieldAddrL (off := 0) (off' := 1) rfl rfl Tryd.underlying24 rfl Tryd.sizeOf3 rfl) ?_
        refine RunG.still rfl rfl rfl rfl (Still.load rfl rfl Tryd.isAgg3 (fun _ hs => cell_nth (hs.at (i := 1) rfl) rfl)) ?_
        refine RunG.still rfl rfl rfl rfl (Still.add rfl rfl rfl (fits64 (by omega) (by omega))) ?_
        refine RunG.two ?_ ?_
        ·
          refine RunG.grows rfl rfl rfl rfl (Grows.empty rfl Tryd.underlying22 Tryd.sizeOf69 Tryd.zeroValue69) (fun b27 _ => ?_)
          refine RunG.two ?_ ?_
          ·
            refine RunG.grows rfl rfl rfl rfl (Grows.appendNew (news := (a.cross.flatMap encCr)) rfl rfl rfl rfl ha0 Tryd.underlying22 (by kernel_rfl : (_ : Option _) = some (some (.agg #[.int .i64 0, .int .i64 0, .int .i64 0, .int .i64 0, .int .i64 0]), 5, 40)) rfl (fun _ hs => Cells.base0 hda.cells hs) (flat_len encCr_len _) (by omega) (by omega)) (fun v30 hv30 => ?_)
            obtain ⟨vb3, vc3, hvv3, hvb3⟩ := hv30
            subst hvv3
            refine RunG.still rfl rfl rfl rfl (Still.build_1_1 (fun x0_0 x1_0 => .agg #[x0_0, x1_0]) rfl rfl rfl (fun _ => by kernel_rfl)) ?_
            refine RunG.grows rfl rfl rfl rfl (Grows.alloc rfl Tryd.zeroValue24) (fun b6 _ => ?_)
            refine RunG.done ?_
            show RunL _ _ _ [_] _ _
            refine RunL.does0 rfl rfl (Does.store rfl rfl rfl (i := 0) rfl Tryd.sizeOf24 rfl (rfl) rfl) (fun _ _ => ?_)
            refine RunL.nil ?_
            exact Ends.meetG (b6, .slice vb3 a.cross.length vc3) ⟨vb3, vc3, rfl, hvb3⟩ (Fr.Sub.cons rfl (Fr.Sub.nil _)) (Fr.Sub.cons rfl (Fr.Sub.cons rfl (Fr.Sub.cons rfl (Fr.Sub.nil _)))) (HSub.pick 0 rfl (HSub.pick 0 rfl (HSub.pick 1 rfl (HSub.pick 1 rfl (HSub.pick 1 rfl (HSub.nil _))))))
          ·
            refine RunG.grows rfl rfl rfl rfl (Grows.alloc rfl Tryd.zeroValue24) (fun b6 _ => ?_)
            refine RunG.grows rfl rfl rfl rfl (Grows.appendNew (news := (a.cross.flatMap encCr)) rfl rfl rfl rfl ha0 Tryd.underlying22 (by kernel_rfl : (_ : Option _) = some (some (.agg #[.int .i64 0, .int .i64 0, .int .i64 0, .int .i64 0, .int .i64 0]), 5, 40)) rfl (fun _ hs => Cells.base0 hda.cells hs) (flat_len encCr_len _) (by omega) (by omega)) (fun v30 hv30 => ?_)
            obtain ⟨vb3, vc3, hvv3, hvb3⟩ := hv30
            subst hvv3
            refine RunG.still rfl rfl rfl rfl (Still.build_1_1 (fun x0_0 x1_0 => .agg #[x0_0, x1_0]) rfl rfl rfl (fun _ => by kernel_rfl)) ?_
            refine RunG.done ?_
            show RunL _ _ _ [_] _ _
            refine RunL.does0 rfl rfl (Does.store rfl rfl rfl (i := 1) rfl Tryd.sizeOf24 rfl (rfl) rfl) (fun _ _ => ?_)
            refine RunL.nil ?_
            exact Ends.meetG (b6, .slice vb3 a.cross.length vc3) ⟨vb3, vc3, rfl, hvb3⟩ (Fr.Sub.cons rfl (Fr.Sub.nil _)) (Fr.Sub.cons rfl (Fr.Sub.cons rfl (Fr.Sub.cons rfl (Fr.Sub.nil _)))) (HSub.pick 1 rfl (HSub.pick 0 rfl (HSub.pick 1 rfl (HSub.pick 1 rfl (HSub.pick 1 rfl (HSub.nil _))))))
        ·
          refine RunG.grows rfl rfl rfl rfl (Grows.alloc rfl Tryd.zeroValue24) (fun b6 _ => ?_)
          refine RunG.grows rfl rfl rfl rfl (Grows.empty rfl Tryd.underlying22 Tryd.sizeOf69 Tryd.zeroValue69) (fun b27 _ => ?_)
          refine RunG.grows rfl rfl rfl rfl (Grows.appendNew (news := (a.cross.flatMap encCr)) rfl rfl rfl rfl ha0 Tryd.underlying22 (by kernel_rfl : (_ : Option _) = some (some (.agg #[.int .i64 0, .int .i64 0, .int .i64 0, .int .i64 0, .int .i64 0]), 5, 40)) rfl (fun _ hs => Cells.base0 hda.cells hs) (flat_len encCr_len _) (by omega) (by omega)) (fun v30 hv30 => ?_)
          obtain ⟨vb3, vc3, hvv3, hvb3⟩ := hv30
          subst hvv3
          refine RunG.still rfl rfl rfl rfl (Still.build_1_1 (fun x0_0 x1_0 => .agg #[x0_0, x1_0]) rfl rfl rfl (fun _ => by kernel_rfl)) ?_
          refine RunG.done ?_
          show RunL _ _ _ [_] _ _
          refine RunL.does0 rfl rfl (Does.store rfl rfl rfl (i := 2) rfl Tryd.sizeOf24 rfl (rfl) rfl) (fun _ _ => ?_)
          refine RunL.nil ?_
          exact Ends.meetG (b6, .slice vb3 a.cross.length vc3) ⟨vb3, vc3, rfl, hvb3⟩ (Fr.Sub.cons rfl (Fr.Sub.nil _)) (Fr.Sub.cons rfl (Fr.Sub.cons rfl (Fr.Sub.cons rfl (Fr.Sub.nil _)))) (HSub.pick 2 rfl (HSub.pick 0 rfl (HSub.pick 1 rfl (HSub.pick 1 rfl (HSub.pick 1 rfl (HSub.nil _))))))
      · rintro ⟨b6, v⟩ hv0
        obtain ⟨vb0, vc0, hvv0, hvb0⟩ := hv0
        change v = _ at hvv0
        subst hvv0
        refine Ends.then ?_
        refine RunC.seq ?_
        refine RunC.seq ?_
        refine RunC.region ?_
        refine RunL.still rfl rfl rfl (Still.assign rfl rfl) ?_
        refine RunL.nil ?_
        refine Ends.then ?_
        refine RunC.block ?_
        refine RunC.loop2 (γ := Value × Nat) (keep := [(2, _), (3, _), (4, _), (6, _)]) (hkeep := [_, _, _]) (fun (v, c) => c ≤ b.cross.length) (fun (v, c) => b.cross.length - c) (fun (v, c) => [(7, iv c)]) (fun (v, c) => [HL.obj b6 (.cells #[v, iv (a.loops + b.loops)] 24 (0, 0)), HL.own 69 5 v (a.cross.length + c) ((a.cross ++ (b.cross.take c).map (shCr (2 * (a.cross.length : Int)))).flatMap encCr)]) (.slice vb0 a.cross.length vc0, 0) (by omega) (Fr.Sub.cons rfl (Fr.Sub.nil _)) (Fr.Sub.cons rfl (Fr.Sub.cons rfl (Fr.Sub.cons rfl (Fr.Sub.cons rfl (Fr.Sub.nil _))))) (HSub.pick 0 rfl (HSub.pick 0 (by rw [List.take_zero, List.map_nil, List.append_nil]; rfl) (HSub.pick 0 rfl (HSub.pick 0 rfl (HSub.pick 0 rfl (HSub.nil _)))))) ?_
        rintro ⟨v, c⟩ hcl
        refine RunC.seq ?_
        refine RunC.seq ?_
        refine RunC.region ?_
        refine RunL.still rfl rfl rfl (Still.move rfl rfl) ?_
        refine RunL.still rfl rfl rfl (Still.fieldAddrL (off := 0) (off' := 0) rfl rfl Tryd.underlying24 rfl Tryd.sizeOf22 rfl) ?_
        refine RunL.still rfl rfl rfl (Still.load rfl rfl Tryd.isAgg22 (fun _ hs => cell_nth (hs.at (i := 3) rfl) rfl)) ?_
        refine RunL.still rfl rfl rfl (Still.lenSlice rfl rfl Tryd.underlying22) ?_
        refine RunL.still rfl rfl rfl (Still.lss rfl rfl rfl) ?_
        refine RunL.nil ?_
        refine Ends.then ?_
        refine RunC.cond rfl (fun h41 => ?_) (fun h41 => ?_)
        · have h41 := of_decide_eq_true h41
          have hcl : c ≤ b.cross.length := hcl
          obtain ⟨x, hx⟩ := get_of_lt (l := b.cross) (i := c) (by omega)
          have hx0 : 0 ≤ x.a0 ∧ x.a0 < 2 * (b.cross.length : Int) := (sb.2.2.2.1 x (List.mem_of_getElem? hx)).2 0 (by omega)
          refine RunC.skip ?_
          refine Ends.then ?_
          refine RunC.seq ?_
          refine RunC.block ?_
          refine RunC.seq ?_
          refine RunC.region ?_
          refine RunL.still rfl rfl rfl (Still.fieldAddrL (off := 0) (off' := 0) rfl rfl Tryd.underlying24 rfl Tryd.sizeOf22 rfl) ?_
          refine RunL.still rfl rfl rfl (Still.load rfl rfl Tryd.isAgg22 (fun _ hs => cell_nth (hs.at (i := 3) rfl) rfl)) ?_
          refine RunL.still rfl rfl rfl (Still.move rfl rfl) ?_
          refine RunL.still rfl rfl rfl (Still.indexSliceN rfl rfl rfl Tryd.underlying22 Tryd.sizeOf69 (hdb.base (by omega)) (by omega)) ?_
          refine RunL.still rfl rfl rfl (Still.loads rfl rfl Tryd.isAgg69 Tryd.sizeOf69 (vs := encCr x) rfl (fun _ hs => Cells.base0 (hdb.cross hx) hs)) ?_
          refine RunL.grows rfl rfl rfl (Grows.alloc rfl Tryd.zeroValue69) (fun b8 _ => ?_)
          refine RunL.does0 rfl rfl (Does.store rfl rfl rfl (i := 0) rfl Tryd.sizeOf69 rfl (rfl) rfl) (fun _ _ => ?_)
          refine RunL.conv (fun _ hs => Sym.obj_own (k := 5) (n := 1) hs rfl (by omega)) ?_
          refine RunL.nil ?_
          refine Ends.then ?_
          refine RunC.seq ?_
          refine RunC.seq ?_
          refine RunC.region ?_
          refine RunL.still rfl rfl rfl (Still.assign rfl rfl) ?_
          refine RunL.nil ?_
          refine Ends.then ?_
          refine RunC.block ?_
          refine RunC.loop2 (γ := Nat) (keep := [(2, _), (3, _), (4, _), (6, _), (7, _), (8, _)]) (hkeep := [_, _, _, _, _]) (fun p => p ≤ 4) (fun p => 4 - p) (fun p => [(9, iv p)]) (fun p => [HL.own 69 5 (.slice (some ⟨b8, 0, none⟩) 1 1) 1 (encCr (shTo (2 * (a.cross.length : Int)) x p))]) 0 (by omega) (Fr.Sub.cons rfl (Fr.Sub.nil _)) (Fr.Sub.cons rfl (Fr.Sub.cons rfl (Fr.Sub.cons rfl (Fr.Sub.cons rfl (Fr.Sub.cons rfl (Fr.Sub.cons rfl (Fr.Sub.nil _))))))) (HSub.pick 0 rfl (HSub.pick 0 rfl (HSub.pick 0 rfl (HSub.pick 0 rfl (HSub.pick 0 rfl (HSub.pick 0 rfl (HSub.nil _))))))) ?_
          rintro p hp
          refine RunC.seq ?_
          refine RunC.seq ?_
          refine RunC.region ?_
          refine RunL.still rfl rfl rfl (Still.move rfl rfl) ?_
          refine RunL.still rfl rfl rfl (Still.lss rfl rfl rfl) ?_
          refine RunL.nil ?_
          refine Ends.then ?_
          refine RunC.cond rfl (fun h50 => ?_) (fun h50 => ?_)
          · have h50 := of_decide_eq_true h50
            have hp4 : p < 4 := by omega
            have hxp : 0 ≤ x.arc p ∧ x.arc p < 2 * (b.cross.length : Int) := (sb.2.2.2.1 x (List.mem_of_getElem? hx)).2 p hp4
            refine RunC.skip ?_
            refine Ends.then ?_
            refine RunC.seq ?_
            refine RunC.block ?_
            refine RunC.draw 11 (.still 0 (.still 1 (.still 2 (.still 3 (.still 4 (.still 5 (.still 6 (.still 7 (.still 8 (.still 9 (.still 10 .done))))))))))) (by kernel_rfl) (by kernel_rfl) ?_
            refine RunG.still rfl rfl rfl rfl (Still.move rfl rfl) ?_
            refine RunG.still rfl rfl rfl rfl (Still.fieldAddrA (off := 0) rfl rfl Tryd.underlying69 rfl Tryd.sizeOf67 rfl) ?_
            refine RunG.still rfl rfl rfl rfl (Still.indexArrN rfl rfl rfl Tryd.underlying67 Tryd.sizeOf3 (by omega)) ?_
            refine RunG.still rfl rfl rfl rfl (Still.load rfl rfl Tryd.isAgg3 (fun w hs => own_at2 (hs.own (i := 0) rfl) ((show (encCr (shTo (2 * (a.cross.length : Int)) x p))[0 + p * 1]? = _ by rw [Nat.zero_add, Nat.mul_one]; exact shTo_get _ _ hp4)))) ?_
            refine RunG.still rfl rfl rfl rfl (Still.fieldAddrL (off := 0) (off' := 0) rfl rfl Tryd.underlying24 rfl Tryd.sizeOf22 rfl) ?_
            refine RunG.still rfl rfl rfl rfl (Still.load rfl rfl Tryd.isAgg22 (fun _ hs => cell_nth (hs.at (i := 5) rfl) rfl)) ?_
            refine RunG.still rfl rfl rfl rfl (Still.lenSlice rfl rfl Tryd.underlying22) ?_
            refine RunG.still rfl rfl rfl rfl (Still.mul rfl rfl rfl (fits64 (by omega) (by omega))) ?_
            refine RunG.still rfl rfl rfl rfl (Still.add rfl rfl rfl (fits64 (by omega) (by omega))) ?_
            refine RunG.still rfl rfl rfl rfl (Still.fieldAddrA (off := 0) rfl rfl Tryd.underlying69 rfl Tryd.sizeOf67 rfl) ?_
            refine RunG.still rfl rfl rfl rfl (Still.indexArrN rfl rfl rfl Tryd.underlying67 Tryd.sizeOf3 (by omega)) ?_
            refine RunG.done ?_
            show RunL _ _ _ [_] _ _
            refine RunL.does0 rfl rfl (Does.storeOwn1 (xs' := (encCr (shTo (2 * (a.cross.length : Int)) x (p + 1)))) rfl rfl (add_add _ _ _) rfl (i := 0) rfl Tryd.sizeOf3 rfl (by rw [encCr_len]; omega) (by rw [Nat.zero_add, Nat.mul_one]; exact shTo_set _ _ hp4)) (fun _ _ => ?_)
            refine RunL.nil ?_
            refine Ends.block ?_
            refine Ends.then ?_
            refine RunC.region ?_
            refine RunL.still rfl rfl rfl (Still.move rfl rfl) ?_
            refine RunL.still rfl rfl rfl (Still.add rfl rfl rfl (fits64 (by omega) (by omega))) ?_
            refine RunL.still rfl rfl rfl (Still.assign rfl rfl) ?_
            refine RunL.nil ?_
            refine Ends.again (p + 1) ?_ ?_ (Fr.Sub.app ?_ ?_) ?_
            · show _; omega
            · show _ < _; omega
            · exact Fr.Sub.cons rfl (Fr.Sub.nil _)
            · exact Fr.Sub.cons rfl (Fr.Sub.cons rfl (Fr.Sub.cons rfl (Fr.Sub.cons rfl (Fr.Sub.cons rfl (Fr.Sub.cons rfl (Fr.Sub.nil _))))))
            · exact HSub.pick 0 rfl (HSub.pick 0 rfl (HSub.pick 0 rfl (HSub.pick 0 rfl (HSub.pick 0 rfl (HSub.pick 0 rfl (HSub.nil _))))))
          · have h50 := of_decide_eq_false h50
            obtain rfl : p = 4 := by omega
            refine RunC.exit ?_
            refine Ends.then_exit ?_
            refine Ends.then_exit ?_
            refine Ends.block_exit ?_
            refine Ends.then ?_
            refine RunC.region ?_
            refine RunL.still rfl rfl rfl (Still.fieldAddrL (off := 0) (off' := 0) rfl rfl Tryd.underlying24 rfl Tryd.sizeOf22 rfl) ?_
            refine RunL.still rfl rfl rfl (Still.load rfl rfl Tryd.isAgg22 (fun _ hs => cell_nth (hs.at (i := 1) rfl) rfl)) ?_
            refine RunL.still rfl rfl rfl (Still.loads rfl rfl Tryd.isAgg69 Tryd.sizeOf69 (vs := encCr (shCr (2 * (a.cross.length : Int)) x)) rfl (fun _ hs => own_cells (i := 0) (hs.own (i := 0) rfl) (fun j u h => by rw [Nat.zero_add]; exact h))) ?_
            refine RunL.grows rfl rfl rfl (Grows.slice1 rfl rfl Tryd.underlying22 Tryd.sizeOf69 rfl Tryd.zeroValue69 (by decide)) (fun b67 _ => ?_)
            refine RunL.does rfl rfl rfl (Does.appendTo (n' := (a.cross.length + (c + 1))) (xs' := (((a.cross ++ (b.cross.take c).map (shCr (2 * (a.cross.length : Int)))) ++ [shCr (2 * (a.cross.length : Int)) x]).flatMap encCr)) (news := [_, _, _, _, _]) rfl rfl rfl rfl (i := 3) rfl Tryd.underlying22 (by kernel_rfl : (_ : Option _) = some (some (.agg #[.int .i64 0, .int .i64 0, .int .i64 0, .int .i64 0, .int .i64 0]), 5, 40)) rfl rfl (fun _ hs => cells_nth (hs.at (i := 0) rfl) ⟨rfl, ⟨rfl, ⟨rfl, ⟨rfl, ⟨rfl, trivial⟩⟩⟩⟩⟩) rfl rfl (by omega) (by omega) (rfl) (cr_snoc rfl)) (fun v68 hv68 => ?_)
            refine RunL.know (fun _ hs => own_shape (hs.own (i := 3) rfl)) (fun hsh2 => ?_)
            obtain ⟨vb2, vc2, hvv2, _⟩ := hsh2
            subst hvv2
            refine RunL.still rfl rfl rfl (Still.fieldAddrL (off := 0) (off' := 0) rfl rfl Tryd.underlying24 rfl Tryd.sizeOf22 rfl) ?_
            refine RunL.does0 rfl rfl (Does.store1 rfl rfl rfl (i := 2) rfl Tryd.sizeOf22 rfl (rfl)) (fun _ _ => ?_)
            refine RunL.nil ?_
            refine Ends.block ?_
            refine Ends.then ?_
            refine RunC.region ?_
            refine RunL.still rfl rfl rfl (Still.move rfl rfl) ?_
            refine RunL.still rfl rfl rfl (Still.add rfl rfl rfl (fits64 (by omega) (by omega))) ?_
            refine RunL.still rfl rfl rfl (Still.assign rfl rfl) ?_
            refine RunL.nil ?_
            refine Ends.again ((Value.slice vb2 (a.cross.length + (c + 1)) vc2), c + 1) ?_ ?_ (Fr.Sub.app ?_ ?_) ?_
            · show c + 1 ≤ _; omega
            · show _ - (c + 1) < _ - c; omega
            · exact Fr.Sub.cons rfl (Fr.Sub.nil _)
            · exact Fr.Sub.cons rfl (Fr.Sub.cons rfl (Fr.Sub.cons rfl (Fr.Sub.cons rfl (Fr.Sub.nil _))))
            · exact HSub.pick 2 rfl (HSub.pick 2 (by rw [List.take_add_one, hx]; simp only [Option.toList_some, List.map_append, List.map_cons, List.map_nil, List.append_assoc]; rfl) (HSub.pick 2 rfl (HSub.pick 2 rfl (HSub.pick 2 rfl (HSub.nil _)))))
        · have h41 := of_decide_eq_false h41
          have hcl : c ≤ b.cross.length := hcl
          obtain rfl : c = b.cross.length := by omega
          refine RunC.exit ?_
          refine Ends.then_exit ?_
          refine Ends.then_exit ?_
          refine Ends.block_exit ?_
          refine Ends.then ?_
          refine RunC.seq ?_
          refine RunC.region ?_
          refine RunL.know (fun _ hs => own_shape (hs.own (i := 1) rfl)) (fun hsh => ?_)
          obtain ⟨vb, vc, hvv, hvb⟩ := hsh
          subst hvv
          refine RunL.still rfl rfl rfl (Still.loads rfl rfl Tryd.isAgg24 Tryd.sizeOf24 (vs := [_, _]) rfl (fun _ hs => cells_nth (hs.at (i := 0) rfl) ⟨rfl, ⟨rfl, trivial⟩⟩)) ?_
          refine RunL.does0 rfl rfl (Does.store rfl rfl rfl (i := 2) rfl Tryd.sizeOf24 rfl (rfl) rfl) (fun _ _ => ?_)
          refine RunL.still rfl rfl rfl (Still.assign rfl rfl) ?_
          refine RunL.nil ?_
          refine Ends.then ?_
          refine RunC.ret ?_
          refine Ends.leave (.inl rfl) (fun _ _ ok => results2 Tryd.results31 (Holds.cell rfl (fun _ hs => load_cells (vs := [_, _]) Tryd.isAgg24 Tryd.sizeOf24 rfl (cells_nth (hs.at (i := 2) rfl) ⟨rfl, ⟨rfl, trivial⟩⟩))) (Holds.tmp rfl) ok) (fun w1 hs => ?_)
          exact Ret.intro (vb, vc) (by rw [OKB, uniD_len]; exact hvb) (by show _ = Value.tuple #[diaV vb vc (uniD a b), iv 0]; simp only [diaV, uniD_len]; rfl) (HSub.pick 1 (by rw [ownD_uni]; rfl) (HSub.nil _)) hs

theorem ref_Union (ba : Option Addr) (A : Addr) (ca : Nat) (a : Dia) (bb : Option Addr) (B : Addr) (cb : Nat) (b : Dia) (w : World) (hda : DiaAt w ba A a) (hdb : DiaAt w bb B b) (sa : SoundP a) (sb : SoundP b) (hu : ¬ uniBad a b) : Gives Tryd.prog 31 #[diaV ba ca a, diaV bb cb b] w Nil (fun q : Option Addr × Nat => OKB q (uniD a b).cross.length) (fun q => .tuple #[diaV q.1 q.2 (uniD a b), iv 0]) (fun q => [ownD q (uniD a b)]) := by
  rcases Nat.eq_zero_or_pos a.cross.length with h0 | h0
  · exact ref_Union_nil ba A ca a bb B cb b w hda hdb sa sb hu h0
  · have hb := hda.base h0
    subst hb
    exact ref_Union_cons A ca a bb B cb b w hda hdb sa sb hu h0

end Go.Proofs
/- Sums of the reference, chapter 22. -/
namespace Go.Proofs
open Go Go.V
set_option maxRecDepth 20000
theorem splD_len (a b : Dia) (i j : Int) : (splD a b i j).cross.length = (uniD a b).cross.length := by rw [splD, setQ_len, setQ_len]
theorem ownD_spl (a b : Dia) (i j : Int) (q : Option Addr × Nat) : ownD q (splD a b i j) = HL.own 69 5 (.slice q.1 (uniD a b).cross.length q.2) (uniD a b).cross.length ((splD a b i j).cross.flatMap encCr) := by rw [ownD, splD_len]
theorem ref_End_in (base : Option Addr) (A : Addr) (cap : Nat) (d : Dia) (k : Int) (w : World) (hd : DiaAt w base A d) (hS : SoundP d) (h0 : 0 ≤ k) (h1 : k < 2 * d.cross.length) : Gives Tryd.prog 55 #[diaV base cap d, iv k] w Nil (fun _ : Unit => True) (fun _ => .agg #[iv ((inQ d k / 4 : Nat) : Int), iv ((inQ d k % 4 : Nat) : Int)]) (fun _ => []) := by
  have h := ref_End base A cap d k w hd
  rw [(inQ_find hS h0 h1).1] at h
  exact h

theorem ref_Sum_lim (ba : Option Addr) (A : Addr) (ca : Nat) (a : Dia) (i : Int) (bb : Option Addr) (B : Addr) (cb : Nat) (b : Dia) (j : Int) (w : World) (hda : DiaAt w ba A a) (hdb : DiaAt w bb B b) (sa : SoundP a) (sb : SoundP b) (hu : uniBad a b) : Gives Tryd.prog 32 #[diaV ba ca a, iv i, diaV bb cb b, iv j] w Nil (fun _ : Unit => True) (fun _ => .tuple #[.agg #[.slice none 0 0, iv 0], iv 2]) (fun _ => []) := by
  refine fn_of_run (S := Nil) (args := [diaV ba ca a, iv i, diaV bb cb b, iv j]) (n := 79) (L := []) Tryd.func32 rfl Tryd.ntmps32 (Nat.le_of_ble_eq_true rfl) (Sym.nil _ _) ?_
  change RunC _ _ _ [(0, _), (1, _), (2, _), (3, _)] _
  refine RunC.seq ?_
  refine RunC.region ?_
  refine RunL.grows rfl rfl rfl (Grows.box rfl rfl) (fun b4 _ => ?_)
  refine RunL.grows rfl rfl rfl (Grows.box rfl rfl) (fun b6 _ => ?_)
  refine RunL.grows rfl rfl rfl (Grows.alloc rfl Tryd.zeroValue24) (fun b8 _ => ?_)
  refine RunL.still rfl rfl rfl (Still.assign rfl rfl) ?_
  refine RunL.nil ?_
  refine Ends.then ?_
  refine RunC.seq ?_
  refine RunC.region ?_
  refine RunL.still rfl rfl rfl (Still.loads rfl rfl Tryd.isAgg24 Tryd.sizeOf24 (vs := [_, _]) rfl (fun _ hs => cells_nth (hs.at (i := 2) rfl) ⟨rfl, ⟨rfl, trivial⟩⟩)) ?_
  refine RunL.still rfl rfl rfl (Still.loads rfl rfl Tryd.isAgg24 Tryd.sizeOf24 (vs := [_, _]) rfl (fun _ hs => cells_nth (hs.at (i := 1) rfl) ⟨rfl, ⟨rfl, trivial⟩⟩)) ?_
  refine RunL.grows rfl rfl rfl (Grows.call (vs := #[_, _]) rfl rfl Tryd.call31 (fun w hs => ref_Union_lim ba A ca a bb B cb b w (hda.sym hs) (hdb.sym hs) sa sb hu)) (fun _ _ => ?_)
  refine RunL.still rfl rfl rfl (Still.move rfl rfl) ?_
  refine RunL.still rfl rfl rfl (Still.extractN rfl rfl rfl) ?_
  refine RunL.still rfl rfl rfl (Still.extractN rfl rfl rfl) ?_
  refine RunL.grows rfl rfl rfl (Grows.alloc rfl Tryd.zeroValue24) (fun b10 _ => ?_)
  refine RunL.does0 rfl rfl (Does.store rfl rfl rfl (i := 0) rfl Tryd.sizeOf24 rfl (rfl) rfl) (fun _ _ => ?_)
  refine RunL.still rfl rfl rfl (Still.assign rfl rfl) ?_
  refine RunL.nil ?_
  refine Ends.then ?_
  refine RunC.seq ?_
  refine RunC.seq ?_
  refine RunC.region ?_
  refine RunL.still rfl rfl rfl (Still.move rfl rfl) ?_
  refine RunL.still rfl rfl rfl (Still.neq rfl rfl rfl) ?_
  refine RunL.again (t := 21) (u := .bool true) rfl (rfl) ?_
  refine RunL.nil ?_
  refine Ends.then ?_
  refine RunC.cond_true rfl ?_
  refine RunC.seq ?_
  refine RunC.region ?_
  refine RunL.still rfl rfl rfl (Still.build_0 (.agg #[.slice none 0 0, .int .i64 0]) rfl (fun _ => by kernel_rfl)) ?_
  refine RunL.still rfl rfl rfl (Still.move rfl rfl) ?_
  refine RunL.does0 rfl rfl (Does.store rfl rfl rfl (i := 1) rfl Tryd.sizeOf24 rfl (rfl) rfl) (fun _ _ => ?_)
  refine RunL.still rfl rfl rfl (Still.assign rfl rfl) ?_
  refine RunL.nil ?_
  refine Ends.then ?_
  refine RunC.ret ?_
  refine Ends.then_ret ?_
  refine Ends.leave (.inl rfl) (fun _ _ ok => results2 Tryd.results32 (Holds.cell rfl (fun _ hs => load_cells (vs := [_, _]) Tryd.isAgg24 Tryd.sizeOf24 rfl (cells_nth (hs.at (i := 1) rfl) ⟨rfl, ⟨rfl, trivial⟩⟩))) (Holds.tmp rfl) ok) (fun w1 hs => ?_)
  exact Ret.intro () trivial rfl (HSub.nil _) hs

theorem ref_Sum_arg1 (ba : Option Addr) (A : Addr) (ca : Nat) (a : Dia) (i : Int) (bb : Option Addr) (B : Addr) (cb : Nat) (b : Dia) (j : Int) (w : World) (hda : DiaAt w ba A a) (hdb : DiaAt w bb B b) (sa : SoundP a) (sb : SoundP b) (hu : ¬ uniBad a b) (hi : ¬ thereP a i) : Gives Tryd.prog 32 #[diaV ba ca a, iv i, diaV bb cb b, iv j] w Nil (fun _ : Unit => True) (fun _ => .tuple #[.agg #[.slice none 0 0, iv 0], iv 1]) (fun _ => []) := by
  have a200 := sa.1
  have al0 := sa.2.1
  have al1 := sa.2.2.1
  have b200 := sb.1
  have bl0 := sb.2.1
  have bl1 := sb.2.2.1
  have hB := Both.of sa sb hu
  have hU := uni_sound hB
  have hul : (uniD a b).loops = a.loops + b.loops := rfl
  have hun := uniD_len a b
  refine fn_of_run (S := Nil) (args := [diaV ba ca a, iv i, diaV bb cb b, iv j]) (n := 79) (L := []) Tryd.func32 rfl Tryd.ntmps32 (Nat.le_of_ble_eq_true rfl) (Sym.nil _ _) ?_
  change RunC _ _ _ [(0, _), (1, _), (2, _), (3, _)] _
  refine RunC.seq ?_
  refine RunC.region ?_
  refine RunL.grows rfl rfl rfl (Grows.box rfl rfl) (fun b4 _ => ?_)
  refine RunL.grows rfl rfl rfl (Grows.box rfl rfl) (fun b6 _ => ?_)
  refine RunL.grows rfl rfl rfl (Grows.alloc rfl Tryd.zeroValue24) (fun b8 _ => ?_)
  refine RunL.still rfl rfl rfl (Still.assign rfl rfl) ?_
  refine RunL.nil ?_
  refine Ends.then ?_
  refine RunC.seq ?_
  refine RunC.region ?_
  refine RunL.still rfl rfl rfl (Still.loads rfl rfl Tryd.isAgg24 Tryd.sizeOf24 (vs := [_, _]) rfl (fun _ hs => cells_nth (hs.at (i := 2) rfl) ⟨rfl, ⟨rfl, trivial⟩⟩)) ?_
  refine RunL.still rfl rfl rfl (Still.loads rfl rfl Tryd.isAgg24 Tryd.sizeOf24 (vs := [_, _]) rfl (fun _ hs => cells_nth (hs.at (i := 1) rfl) ⟨rfl, ⟨rfl, trivial⟩⟩)) ?_
  refine RunL.grows rfl rfl rfl (Grows.call (vs := #[_, _]) rfl rfl Tryd.call31 (fun w hs => ref_Union ba A ca a bb B cb b w (hda.sym hs) (hdb.sym hs) sa sb hu)) (fun q hq => ?_)
  refine RunL.still rfl rfl rfl (Still.move rfl rfl) ?_
  refine RunL.still rfl rfl rfl (Still.extractN rfl rfl rfl) ?_
  refine RunL.still rfl rfl rfl (Still.extractN rfl rfl rfl) ?_
  refine RunL.grows rfl rfl rfl (Grows.alloc rfl Tryd.zeroValue24) (fun b10 _ => ?_)
  refine RunL.does0 rfl rfl (Does.store rfl rfl rfl (i := 0) rfl Tryd.sizeOf24 rfl (rfl) rfl) (fun _ _ => ?_)
  refine RunL.still rfl rfl rfl (Still.assign rfl rfl) ?_
  refine RunL.nil ?_
  refine Ends.then ?_
  refine RunC.seq ?_
  refine RunC.seq ?_
  refine RunC.region ?_
  refine RunL.still rfl rfl rfl (Still.move rfl rfl) ?_
  refine RunL.still rfl rfl rfl (Still.neq rfl rfl rfl) ?_
  refine RunL.again (t := 21) (u := .bool false) rfl (rfl) ?_
  refine RunL.nil ?_
  refine Ends.then ?_
  refine RunC.cond_false rfl ?_
  refine RunC.skip ?_
  refine Ends.then ?_
  refine RunC.seq ?_
  refine RunC.seq ?_
  refine RunC.region ?_
  refine RunL.still rfl rfl rfl (Still.loads rfl rfl Tryd.isAgg24 Tryd.sizeOf24 (vs := [_, _]) rfl (fun _ hs => cells_nth (hs.at (i := 4) rfl) ⟨rfl, ⟨rfl, trivial⟩⟩)) ?_
  refine RunL.still rfl rfl rfl (Still.move rfl rfl) ?_
  refine RunL.grows rfl rfl rfl (Grows.call (vs := #[_, _]) rfl rfl Tryd.call54 (fun w hs => ref_there_no ba A ca a i w (hda.sym hs) a200 hi)) (fun _ _ => ?_)
  refine RunL.again (t := 26) (u := .bool false) rfl (rfl) ?_
  refine RunL.still rfl rfl rfl (Still.not rfl rfl) ?_
  refine RunL.still rfl rfl rfl (Still.move rfl rfl) ?_
  refine RunL.off rfl rfl rfl ?_
  refine RunL.off rfl rfl rfl ?_
  refine RunL.off rfl rfl rfl ?_
  refine RunL.off rfl rfl rfl ?_
  refine RunL.still rfl rfl rfl (Still.pickT rfl rfl rfl) ?_
  refine RunL.nil ?_
  refine Ends.then ?_
  refine RunC.cond_true rfl ?_
  refine RunC.seq ?_
  refine RunC.region ?_
  refine RunL.still rfl rfl rfl (Still.build_0 (.agg #[.slice none 0 0, .int .i64 0]) rfl (fun _ => by kernel_rfl)) ?_
  refine RunL.does0 rfl rfl (Does.store rfl rfl rfl (i := 2) rfl Tryd.sizeOf24 rfl (rfl) rfl) (fun _ _ => ?_)
  refine RunL.still rfl rfl rfl (Still.assign rfl rfl) ?_
  refine RunL.nil ?_
  refine Ends.then ?_
  refine RunC.ret ?_
  refine Ends.then_ret ?_
  refine Ends.leave (.inl rfl) (fun _ _ ok => results2 Tryd.results32 (Holds.cell rfl (fun _ hs => load_cells (vs := [_, _]) Tryd.isAgg24 Tryd.sizeOf24 rfl (cells_nth (hs.at (i := 2) rfl) ⟨rfl, ⟨rfl, trivial⟩⟩))) (Holds.tmp rfl) ok) (fun w1 hs => ?_)
  exact Ret.intro () trivial rfl (HSub.nil _) hs

theorem ref_Sum_arg2 (ba : Option Addr) (A : Addr) (ca : Nat) (a : Dia) (i : Int) (bb : Option Addr) (B : Addr) (cb : Nat) (b : Dia) (j : Int) (w : World) (hda : DiaAt w ba A a) (hdb : DiaAt w bb B b) (sa : SoundP a) (sb : SoundP b) (hu : ¬ uniBad a b) (hi : thereP a i) (hj : ¬ thereP b j) : Gives Tryd.prog 32 #[diaV ba ca a, iv i, diaV bb cb b, iv j] w Nil (fun _ : Unit => True) (fun _ => .tuple #[.agg #[.slice none 0 0, iv 0], iv 1]) (fun _ => []) := by
  have a200 := sa.1
  have al0 := sa.2.1
  have al1 := sa.2.2.1
  have b200 := sb.1
  have bl0 := sb.2.1
  have bl1 := sb.2.2.1
  have hB := Both.of sa sb hu
  have hU := uni_sound hB
  have hul : (uniD a b).loops = a.loops + b.loops := rfl
  have hun := uniD_len a b
  refine fn_of_run (S := Nil) (args := [diaV ba ca a, iv i, diaV bb cb b, iv j]) (n := 79) (L := []) Tryd.func32 rfl Tryd.ntmps32 (Nat.le_of_ble_eq_true rfl) (Sym.nil _ _) ?_
  change RunC _ _ _ [(0, _), (1, _), (2, _), (3, _)] _
  refine RunC.seq ?_
  refine RunC.region ?_
  refine RunL.grows rfl rfl rfl (Grows.box rfl rfl) (fun b4 _ => ?_)
  refine RunL.grows rfl rfl rfl (Grows.box rfl rfl) (fun b6 _ => ?_)
  refine RunL.grows rfl rfl rfl (Grows.alloc rfl Tryd.zeroValue24) (fun b8 _ => ?_)
  refine RunL.still rfl rfl rfl (Still.assign rfl rfl) ?_
  refine RunL.nil ?_
  refine Ends.then ?_
  refine RunC.seq ?_
  refine RunC.region ?_
  refine RunL.still rfl rfl rfl (Still.loads rfl rfl Tryd.isAgg24 Tryd.sizeOf24 (vs := [_, _]) rfl (fun _ hs => cells_nth (hs.at (i := 2) rfl) ⟨rfl, ⟨rfl, trivial⟩⟩)) ?_
  refine RunL.still rfl rfl rfl (Still.loads rfl rfl Tryd.isAgg24 Tryd.sizeOf24 (vs := [_, _]) rfl (fun _ hs => cells_nth (hs.at (i := 1) rfl) ⟨rfl, ⟨rfl, trivial⟩⟩)) ?_
  refine RunL.grows rfl rfl rfl (Grows.call (vs := #[_, _]) rfl rfl Tryd.call31 (fun w hs => ref_Union ba A ca a bb B cb b w (hda.sym hs) (hdb.sym hs) sa sb hu)) (fun q hq => ?_)
  refine RunL.still rfl rfl rfl (Still.move rfl rfl) ?_
  refine RunL.still rfl rfl rfl (Still.extractN rfl rfl rfl) ?_
  refine RunL.still rfl rfl rfl (Still.extractN rfl rfl rfl) ?_
  refine RunL.grows rfl rfl rfl (Grows.alloc rfl Tryd.zeroValue24) (fun b10 _ => ?_)
  refine RunL.does0 rfl rfl (Does.store rfl rfl rfl (i := 0) rfl Tryd.sizeOf24 rfl (rfl) rfl) (fun _ _ => ?_)
  refine RunL.still rfl rfl rfl (Still.assign rfl rfl) ?_
  refine RunL.nil ?_
  refine Ends.then ?_
  refine RunC.seq ?_
  refine RunC.seq ?_
  refine RunC.region ?_
  refine RunL.still rfl rfl rfl (Still.move rfl rfl) ?_
  refine RunL.still rfl rfl rfl (Still.neq rfl rfl rfl) ?_
  refine RunL.again (t := 21) (u := .bool false) rfl (rfl) ?_
  refine RunL.nil ?_
  refine Ends.then ?_
  refine RunC.cond_false rfl ?_
  refine RunC.skip ?_
  refine Ends.then ?_
  refine RunC.seq ?_
  refine RunC.seq ?_
  refine RunC.region ?_
  refine RunL.still rfl rfl rfl (Still.loads rfl rfl Tryd.isAgg24 Tryd.sizeOf24 (vs := [_, _]) rfl (fun _ hs => cells_nth (hs.at (i := 4) rfl) ⟨rfl, ⟨rfl, trivial⟩⟩)) ?_
  refine RunL.still rfl rfl rfl (Still.move rfl rfl) ?_
  refine RunL.grows rfl rfl rfl (Grows.call (vs := #[_, _]) rfl rfl Tryd.call54 (fun w hs => ref_there_yes ba A ca a i w (hda.sym hs) a200 hi)) (fun _ _ => ?_)
  refine RunL.again (t := 26) (u := .bool true) rfl (rfl) ?_
  refine RunL.still rfl rfl rfl (Still.not rfl rfl) ?_
  refine RunL.still rfl rfl rfl (Still.move rfl rfl) ?_
  refine RunL.still rfl rfl rfl (Still.loads rfl rfl Tryd.isAgg24 Tryd.sizeOf24 (vs := [_, _]) rfl (fun _ hs => cells_nth (hs.at (i := 3) rfl) ⟨rfl, ⟨rfl, trivial⟩⟩)) ?_
  refine RunL.still rfl rfl rfl (Still.move rfl rfl) ?_
  refine RunL.grows rfl rfl rfl (Grows.call (vs := #[_, _]) rfl rfl Tryd.call54 (fun w hs => ref_there_no bb B cb b j w (hdb.sym hs) b200 hj)) (fun _ _ => ?_)
  refine RunL.again (t := 31) (u := .bool false) rfl (rfl) ?_
  refine RunL.still rfl rfl rfl (Still.not rfl rfl) ?_
  refine RunL.still rfl rfl rfl (Still.pickF rfl rfl rfl) ?_
  refine RunL.nil ?_
  refine Ends.then ?_
  refine RunC.cond_true rfl ?_
  refine RunC.seq ?_
  refine RunC.region ?_
  refine RunL.still rfl rfl rfl (Still.build_0 (.agg #[.slice none 0 0, .int .i64 0]) rfl (fun _ => by kernel_rfl)) ?_
  refine RunL.does0 rfl rfl (Does.store rfl rfl rfl (i := 2) rfl Tryd.sizeOf24 rfl (rfl) rfl) (fun _ _ => ?_)
  refine RunL.still rfl rfl rfl (Still.assign rfl rfl) ?_
  refine RunL.nil ?_
  refine Ends.then ?_
  refine RunC.ret ?_
  refine Ends.then_ret ?_
  refine Ends.leave (.inl rfl) (fun _ _ ok => results2 Tryd.results32 (Holds.cell rfl (fun _ hs => load_cells (vs := [_, _]) Tryd.isAgg24 Tryd.sizeOf24 rfl (cells_nth (hs.at (i := 2) rfl) ⟨rfl, ⟨rfl, trivial⟩⟩))) (Holds.tmp rfl) ok) (fun w1 hs => ?_)
  exact Ret.intro () trivial rfl (HSub.nil _) hs

theorem ref_Sum_neg (ba : Option Addr) (A : Addr) (ca : Nat) (a : Dia) (i : Int) (bb : Option Addr) (B : Addr) (cb : Nat) (b : Dia) (j : Int) (w : World) (hda : DiaAt w ba A a) (hdb : DiaAt w bb B b) (sa : SoundP a) (sb : SoundP b) (hu : ¬ uniBad a b) (hi : thereP a i) (hj : thereP b j) (hn : i < 0 ∨ j < 0) : Gives Tryd.prog 32 #[diaV ba ca a, iv i, diaV bb cb b, iv j] w Nil (fun q : Option Addr × Nat => OKB q (withL (uniD a b) ((uniD a b).loops - 1)).cross.length) (fun q => .tuple #[diaV q.1 q.2 (withL (uniD a b) ((uniD a b).loops - 1)), iv 0]) (fun q => [ownD q (withL (uniD a b) ((uniD a b).loops - 1))]) := by
  have a200 := sa.1
  have al0 := sa.2.1
  have al1 := sa.2.2.1
  have b200 := sb.1
  have bl0 := sb.2.1
  have bl1 := sb.2.2.1
  have hB := Both.of sa sb hu
  have hU := uni_sound hB
  have hul : (uniD a b).loops = a.loops + b.loops := rfl
  have hun := uniD_len a b
  refine fn_of_run (S := Nil) (args := [diaV ba ca a, iv i, diaV bb cb b, iv j]) (n := 79) (L := []) Tryd.func32 rfl Tryd.ntmps32 (Nat.le_of_ble_eq_true rfl) (Sym.nil _ _) ?_
  change RunC _ _ _ [(0, _), (1, _), (2, _), (3, _)] _
  refine RunC.seq ?_
  refine RunC.region ?_
  refine RunL.grows rfl rfl rfl (Grows.box rfl rfl) (fun b4 _ => ?_)
  refine RunL.grows rfl rfl rfl (Grows.box rfl rfl) (fun b6 _ => ?_)
  refine RunL.grows rfl rfl rfl (Grows.alloc rfl Tryd.zeroValue24) (fun b8 _ => ?_)
  refine RunL.still rfl rfl rfl (Still.assign rfl rfl) ?_
  refine RunL.nil ?_
  refine Ends.then ?_
  refine RunC.seq ?_
  refine RunC.region ?_
  refine RunL.still rfl rfl rfl (Still.loads rfl rfl Tryd.isAgg24 Tryd.sizeOf24 (vs := [_, _]) rfl (fun _ hs => cells_nth (hs.at (i := 2) rfl) ⟨rfl, ⟨rfl, trivial⟩⟩)) ?_
  refine RunL.still rfl rfl rfl (Still.loads rfl rfl Tryd.isAgg24 Tryd.sizeOf24 (vs := [_, _]) rfl (fun _ hs => cells_nth (hs.at (i := 1) rfl) ⟨rfl, ⟨rfl, trivial⟩⟩)) ?_
  refine RunL.grows rfl rfl rfl (Grows.call (vs := #[_, _]) rfl rfl Tryd.call31 (fun w hs => ref_Union ba A ca a bb B cb b w (hda.sym hs) (hdb.sym hs) sa sb hu)) (fun q hq => ?_)
  refine RunL.still rfl rfl rfl (Still.move rfl rfl) ?_
  refine RunL.still rfl rfl rfl (Still.extractN rfl rfl rfl) ?_
  refine RunL.still rfl rfl rfl (Still.extractN rfl rfl rfl) ?_
  refine RunL.grows rfl rfl rfl (Grows.alloc rfl Tryd.zeroValue24) (fun b10 _ => ?_)
  refine RunL.does0 rfl rfl (Does.store rfl rfl rfl (i := 0) rfl Tryd.sizeOf24 rfl (rfl) rfl) (fun _ _ => ?_)
  refine RunL.conv (fun _ hs => hs.re 0 rfl (show _ = HL.obj b10 (.cells #[.slice q.1 (uniD a b).cross.length q.2, iv (uniD a b).loops] 24 (0, 0)) from rfl)) ?_
  refine RunL.still rfl rfl rfl (Still.assign rfl rfl) ?_
  refine RunL.nil ?_
  refine Ends.then ?_
  refine RunC.seq ?_
  refine RunC.seq ?_
  refine RunC.region ?_
  refine RunL.still rfl rfl rfl (Still.move rfl rfl) ?_
  refine RunL.still rfl rfl rfl (Still.neq rfl rfl rfl) ?_
  refine RunL.again (t := 21) (u := .bool false) rfl (rfl) ?_
  refine RunL.nil ?_
  refine Ends.then ?_
  refine RunC.cond_false rfl ?_
  refine RunC.skip ?_
  refine Ends.then ?_
  refine RunC.seq ?_
  refine RunC.seq ?_
  refine RunC.region ?_
  refine RunL.still rfl rfl rfl (Still.loads rfl rfl Tryd.isAgg24 Tryd.sizeOf24 (vs := [_, _]) rfl (fun _ hs => cells_nth (hs.at (i := 4) rfl) ⟨rfl, ⟨rfl, trivial⟩⟩)) ?_
  refine RunL.still rfl rfl rfl (Still.move rfl rfl) ?_
  refine RunL.grows rfl rfl rfl (Grows.call (vs := #[_, _]) rfl rfl Tryd.call54 (fun w hs => ref_there_yes ba A ca a i w (hda.sym hs) a200 hi)) (fun _ _ => ?_)
  refine RunL.again (t := 26) (u := .bool true) rfl (rfl) ?_
  refine RunL.still rfl rfl rfl (Still.not rfl rfl) ?_
  refine RunL.still rfl rfl rfl (Still.move rfl rfl) ?_
  refine RunL.still rfl rfl rfl (Still.loads rfl rfl Tryd.isAgg24 Tryd.sizeOf24 (vs := [_, _]) rfl (fun _ hs => cells_nth (hs.at (i := 3) rfl) ⟨rfl, ⟨rfl, trivial⟩⟩)) ?_
  refine RunL.still rfl rfl rfl (Still.move rfl rfl) ?_
  refine RunL.grows rfl rfl rfl (Grows.call (vs := #[_, _]) rfl rfl Tryd.call54 (fun w hs => ref_there_yes bb B cb b j w (hdb.sym hs) b200 hj)) (fun _ _ => ?_)
  refine RunL.again (t := 31) (u := .bool true) rfl (rfl) ?_
  refine RunL.still rfl rfl rfl (Still.not rfl rfl) ?_
  refine RunL.still rfl rfl rfl (Still.pickF rfl rfl rfl) ?_
  refine RunL.nil ?_
  refine Ends.then ?_
  refine RunC.cond_false rfl ?_
  refine RunC.skip ?_
  refine Ends.then ?_
  refine RunC.seq ?_
  refine RunC.seq ?_
  refine RunC.meet1 (chg := [(40, .bool (decide (i < 0 ∨ j < 0)))]) (keep := [(1, _), (3, _), (4, _), (8, _), (10, _)]) (hkeep := [_, _, _, _, _]) (Fr.Sub.cons rfl (Fr.Sub.cons rfl (Fr.Sub.cons rfl (Fr.Sub.cons rfl (Fr.Sub.cons rfl (Fr.Sub.nil _)))))) (HSub.pick 0 rfl (HSub.pick 0 rfl (HSub.pick 0 rfl (HSub.pick 0 rfl (HSub.pick 0 rfl (HSub.nil _)))))) ?_ ?_
  ·
    refine RunC.region ?_
    refine RunL.still rfl rfl rfl (Still.move rfl rfl) ?_
    refine RunL.still rfl rfl rfl (Still.lss rfl rfl rfl) ?_
    refine RunL.still rfl rfl rfl (Still.move rfl rfl) ?_
    refine RunL.split (t := 37) rfl (fun h37 => ?_) (fun h37 => ?_)
    · have h37 := of_decide_eq_true h37
      refine RunL.off rfl rfl rfl ?_
      refine RunL.off rfl rfl rfl ?_
      refine RunL.still rfl rfl rfl (Still.pickT rfl rfl rfl) ?_
      refine RunL.nil ?_
      exact Ends.meet1 (Fr.Sub.cons (by first | exact congrArg (fun b => some (Value.bool b)) (decide_eq_true (by omega)).symm | exact congrArg (fun b => some (Value.bool b)) (decide_eq_false (by omega)).symm | exact congrArg (fun b => some (Value.bool b)) (decide_eq_decide.2 (by omega))) (Fr.Sub.nil _)) (Fr.Sub.cons rfl (Fr.Sub.cons rfl (Fr.Sub.cons rfl (Fr.Sub.cons rfl (Fr.Sub.cons rfl (Fr.Sub.nil _)))))) (HSub.pick 0 rfl (HSub.pick 0 rfl (HSub.pick 0 rfl (HSub.pick 0 rfl (HSub.pick 0 rfl (HSub.nil _))))))
    · have h37 := of_decide_eq_false h37
      refine RunL.still rfl rfl rfl (Still.move rfl rfl) ?_
      refine RunL.still rfl rfl rfl (Still.lss rfl rfl rfl) ?_
      refine RunL.still rfl rfl rfl (Still.pickF rfl rfl rfl) ?_
      refine RunL.nil ?_
      exact Ends.meet1 (Fr.Sub.cons (by first | exact congrArg (fun b => some (Value.bool b)) (decide_eq_true (by omega)).symm | exact congrArg (fun b => some (Value.bool b)) (decide_eq_false (by omega)).symm | exact congrArg (fun b => some (Value.bool b)) (decide_eq_decide.2 (by omega))) (Fr.Sub.nil _)) (Fr.Sub.cons rfl (Fr.Sub.cons rfl (Fr.Sub.cons rfl (Fr.Sub.cons rfl (Fr.Sub.cons rfl (Fr.Sub.nil _)))))) (HSub.pick 0 rfl (HSub.pick 0 rfl (HSub.pick 0 rfl (HSub.pick 0 rfl (HSub.pick 0 rfl (HSub.nil _))))))
  ·
    refine Ends.then ?_
    refine RunC.cond rfl (fun h40 => ?_) (fun h40 => ?_)
    · have h40 := of_decide_eq_true h40
      refine RunC.seq ?_
      refine RunC.region ?_
      refine RunL.still rfl rfl rfl (Still.fieldAddrL (off := 0) (off' := 1) rfl rfl Tryd.underlying24 rfl Tryd.sizeOf3 rfl) ?_
      refine RunL.still rfl rfl rfl (Still.load rfl rfl Tryd.isAgg3 (fun _ hs => cell_nth (hs.at (i := 0) rfl) rfl)) ?_
      refine RunL.still rfl rfl rfl (Still.sub rfl rfl rfl (fits64 (by omega) (by omega))) ?_
      refine RunL.still rfl rfl rfl (Still.fieldAddrL (off := 0) (off' := 1) rfl rfl Tryd.underlying24 rfl Tryd.sizeOf3 rfl) ?_
      refine RunL.does0 rfl rfl (Does.store1 rfl rfl rfl (i := 0) rfl Tryd.sizeOf3 rfl (rfl)) (fun _ _ => ?_)
      refine RunL.nil ?_
      refine Ends.then ?_
      refine RunC.seq ?_
      refine RunC.region ?_
      refine RunL.still rfl rfl rfl (Still.loads rfl rfl Tryd.isAgg24 Tryd.sizeOf24 (vs := [_, _]) rfl (fun _ hs => cells_nth (hs.at (i := 0) rfl) ⟨rfl, ⟨rfl, trivial⟩⟩)) ?_
      refine RunL.does0 rfl rfl (Does.store rfl rfl rfl (i := 2) rfl Tryd.sizeOf24 rfl (rfl) rfl) (fun _ _ => ?_)
      refine RunL.still rfl rfl rfl (Still.assign rfl rfl) ?_
      refine RunL.nil ?_
      refine Ends.then ?_
      refine RunC.ret ?_
      refine Ends.then_ret ?_
      refine Ends.leave (.inl rfl) (fun _ _ ok => results2 Tryd.results32 (Holds.cell rfl (fun _ hs => load_cells (vs := [_, _]) Tryd.isAgg24 Tryd.sizeOf24 rfl (cells_nth (hs.at (i := 2) rfl) ⟨rfl, ⟨rfl, trivial⟩⟩))) (Holds.tmp rfl) ok) (fun w1 hs => ?_)
      exact Ret.intro q hq rfl (HSub.pick 1 rfl (HSub.nil _)) hs
    · have h40 := of_decide_eq_false h40
      exact absurd hn h40

theorem ref_Sum_spl (ba : Option Addr) (A : Addr) (ca : Nat) (a : Dia) (i : Int) (bb : Option Addr) (B : Addr) (cb : Nat) (b : Dia) (j : Int) (w : World) (hda : DiaAt w ba A a) (hdb : DiaAt w bb B b) (sa : SoundP a) (sb : SoundP b) (hu : ¬ uniBad a b) (hi0 : 0 ≤ i) (hi1 : i < 2 * a.cross.length) (hj0 : 0 ≤ j) (hj1 : j < 2 * b.cross.length) : Gives Tryd.prog 32 #[diaV ba ca a, iv i, diaV bb cb b, iv j] w Nil (fun q : Option Addr × Nat => OKB q (splD a b i j).cross.length) (fun q => .tuple #[diaV q.1 q.2 (splD a b i j), iv 0]) (fun q => [ownD q (splD a b i j)]) := by
  have a200 := sa.1
  have al0 := sa.2.1
  have al1 := sa.2.2.1
  have b200 := sb.1
  have bl0 := sb.2.1
  have bl1 := sb.2.2.1
  have hB := Both.of sa sb hu
  have hU := uni_sound hB
  have hul : (uniD a b).loops = a.loops + b.loops := rfl
  have hun := uniD_len a b
  have hXf := inQ_find hU (a := i) hi0 (by omega)
  have hX := hXf.2.1
  have hYf := inQ_find hU (a := (j + 2 * a.cross.length)) (by omega) (by omega)
  have hY := hYf.2.1
  have hY2 : (inQ (uniD a b) (j + 2 * a.cross.length)) < 4 * (setQ (uniD a b) (inQ (uniD a b) i) (j + 2 * a.cross.length)).cross.length := by rw [setQ_len]; exact hY
  have hil : (inQ (uniD a b) i) / 4 < (uniD a b).cross.length := by omega
  have hjl : (inQ (uniD a b) (j + 2 * a.cross.length)) / 4 < (uniD a b).cross.length := by omega
  have hi : thereP a i := .inl ⟨hi0, hi1⟩
  have hj : thereP b j := .inl ⟨hj0, hj1⟩
  refine fn_of_run (S := Nil) (args := [diaV ba ca a, iv i, diaV bb cb b, iv j]) (n := 79) (L := []) Tryd.func32 rfl Tryd.ntmps32 (Nat.le_of_ble_eq_true rfl) (Sym.nil _ _) ?_
  change RunC _ _ _ [(0, _), (1, _), (2, _), (3, _)] _
  refine RunC.seq ?_
  refine RunC.region ?_
  refine RunL.grows rfl rfl rfl (Grows.box rfl rfl) (fun b4 _ => ?_)
  refine RunL.grows rfl rfl rfl (Grows.box rfl rfl) (fun b6 _ => ?_)
  refine RunL.grows rfl rfl rfl (Grows.alloc rfl Tryd.zeroValue24) (fun b8 _ => ?_)
  refine RunL.still rfl rfl rfl (Still.assign rfl rfl) ?_
  refine RunL.nil ?_
  refine Ends.then ?_
  refine RunC.seq ?_
  refine RunC.region ?_
  refine RunL.still rfl rfl rfl (Still.loads rfl rfl Tryd.isAgg24 Tryd.sizeOf24 (vs := [_, _]) rfl (fun _ hs => cells_nth (hs.at (i := 2) rfl) ⟨rfl, ⟨rfl, trivial⟩⟩)) ?_
  refine RunL.still rfl rfl rfl (Still.loads rfl rfl Tryd.isAgg24 Tryd.sizeOf24 (vs := [_, _]) rfl (fun _ hs => cells_nth (hs.at (i := 1) rfl) ⟨rfl, ⟨rfl, trivial⟩⟩)) ?_
  refine RunL.grows rfl rfl rfl (Grows.call (vs := #[_, _]) rfl rfl Tryd.call31 (fun w hs => ref_Union ba A ca a bb B cb b w (hda.sym hs) (hdb.sym hs) sa sb hu)) (fun q hq => ?_)
  refine RunL.still rfl rfl rfl (Still.move rfl rfl) ?_
  refine RunL.still rfl rfl rfl (Still.extractN rfl rfl rfl) ?_
  refine RunL.still rfl rfl rfl (Still.extractN rfl rfl rfl) ?_
  refine RunL.grows rfl rfl rfl (Grows.alloc rfl Tryd.zeroValue24) (fun b10 _ => ?_)
  refine RunL.does0 rfl rfl (Does.store rfl rfl rfl (i := 0) rfl Tryd.sizeOf24 rfl (rfl) rfl) (fun _ _ => ?_)
  refine RunL.conv (fun _ hs => hs.re 0 rfl (show _ = HL.obj b10 (.cells #[.slice q.1 (uniD a b).cross.length q.2, iv (uniD a b).loops] 24 (0, 0)) from rfl)) ?_
  refine RunL.still rfl rfl rfl (Still.assign rfl rfl) ?_
  refine RunL.nil ?_
  refine Ends.then ?_
  refine RunC.seq ?_
  refine RunC.seq ?_
  refine RunC.region ?_
  refine RunL.still rfl rfl rfl (Still.move rfl rfl) ?_
  refine RunL.still rfl rfl rfl (Still.neq rfl rfl rfl) ?_
  refine RunL.again (t := 21) (u := .bool false) rfl (rfl) ?_
  refine RunL.nil ?_
  refine Ends.then ?_
  refine RunC.cond_false rfl ?_
  refine RunC.skip ?_
  refine Ends.then ?_
  refine RunC.seq ?_
  refine RunC.seq ?_
  refine RunC.region ?_
  refine RunL.still rfl rfl rfl (Still.loads rfl rfl Tryd.isAgg24 Tryd.sizeOf24 (vs := [_, _]) rfl (fun _ hs => cells_nth (hs.at (i := 4) rfl) ⟨rfl, ⟨rfl, trivial⟩⟩)) ?_
  refine RunL.still rfl rfl rfl (Still.move rfl rfl) ?_
  refine RunL.grows rfl rfl rfl (Grows.call (vs := #[_, _]) rfl rfl Tryd.call54 (fun w hs => ref_there_yes ba A ca a i w (hda.sym hs) a200 hi)) (fun _ _ => ?_)
  refine RunL.again (t := 26) (u := .bool true) rfl (rfl) ?_
  refine RunL.still rfl rfl rfl (Still.not rfl rfl) ?_
  refine RunL.still rfl rfl rfl (Still.move rfl rfl) ?_
  refine RunL.still rfl rfl rfl (Still.loads rfl rfl Tryd.isAgg24 Tryd.sizeOf24 (vs := [_, _]) rfl (fun _ hs => cells_nth (hs.at (i := 3) rfl) ⟨rfl, ⟨rfl, trivial⟩⟩)) ?_
  refine RunL.still rfl rfl rfl (Still.move rfl rfl) ?_
  refine RunL.grows rfl rfl rfl (Grows.call (vs := #[_, _]) rfl rfl Tryd.call54 (fun w hs => ref_there_yes bb B cb b j w (hdb.sym hs) b200 hj)) (fun _ _ => ?_)
  refine RunL.again (t := 31) (u := .bool true) rfl (rfl) ?_
  refine RunL.still rfl rfl rfl (Still.not rfl rfl) ?_
  refine RunL.still rfl rfl rfl (Still.pickF rfl rfl rfl) ?_
  refine RunL.nil ?_
  refine Ends.then ?_
  refine RunC.cond_false rfl ?_
  refine RunC.skip ?_
  refine Ends.then ?_
  refine RunC.seq ?_
  refine RunC.seq ?_
  refine RunC.meet1 (chg := [(40, .bool (decide (i < 0 ∨ j < 0)))]) (keep := [(1, _), (3, _), (4, _), (8, _), (10, _)]) (hkeep := [_, _, _, _, _]) (Fr.Sub.cons rfl (Fr.Sub.cons rfl (Fr.Sub.cons rfl (Fr.Sub.cons rfl (Fr.Sub.cons rfl (Fr.Sub.nil _)))))) (HSub.pick 0 rfl (HSub.pick 0 rfl (HSub.pick 0 rfl (HSub.pick 0 rfl (HSub.pick 0 rfl (HSub.nil _)))))) ?_ ?_
  ·
    refine RunC.region ?_
    refine RunL.still rfl rfl rfl (Still.move rfl rfl) ?_
    refine RunL.still rfl rfl rfl (Still.lss rfl rfl rfl) ?_
    refine RunL.still rfl rfl rfl (Still.move rfl rfl) ?_
    refine RunL.split (t := 37) rfl (fun h37 => ?_) (fun h37 => ?_)
    · have h37 := of_decide_eq_true h37
      refine RunL.off rfl rfl rfl ?_
      refine RunL.off rfl rfl rfl ?_
      refine RunL.still rfl rfl rfl (Still.pickT rfl rfl rfl) ?_
      refine RunL.nil ?_
      exact Ends.meet1 (Fr.Sub.cons (by first | exact congrArg (fun b => some (Value.bool b)) (decide_eq_true (by omega)).symm | exact congrArg (fun b => some (Value.bool b)) (decide_eq_false (by omega)).symm | exact congrArg (fun b => some (Value.bool b)) (decide_eq_decide.2 (by omega))) (Fr.Sub.nil _)) (Fr.Sub.cons rfl (Fr.Sub.cons rfl (Fr.Sub.cons rfl (Fr.Sub.cons rfl (Fr.Sub.cons rfl (Fr.Sub.nil _)))))) (HSub.pick 0 rfl (HSub.pick 0 rfl (HSub.pick 0 rfl (HSub.pick 0 rfl (HSub.pick 0 rfl (HSub.nil _))))))
    · have h37 := of_decide_eq_false h37
      refine RunL.still rfl rfl rfl (Still.move rfl rfl) ?_
      refine RunL.still rfl rfl rfl (Still.lss rfl rfl rfl) ?_
      refine RunL.still rfl rfl rfl (Still.pickF rfl rfl rfl) ?_
      refine RunL.nil ?_
      exact Ends.meet1 (Fr.Sub.cons (by first | exact congrArg (fun b => some (Value.bool b)) (decide_eq_true (by omega)).symm | exact congrArg (fun b => some (Value.bool b)) (decide_eq_false (by omega)).symm | exact congrArg (fun b => some (Value.bool b)) (decide_eq_decide.2 (by omega))) (Fr.Sub.nil _)) (Fr.Sub.cons rfl (Fr.Sub.cons rfl (Fr.Sub.cons rfl (Fr.Sub.cons rfl (Fr.Sub.cons rfl (Fr.Sub.nil _)))))) (HSub.pick 0 rfl (HSub.pick 0 rfl (HSub.pick 0 rfl (HSub.pick 0 rfl (HSub.pick 0 rfl (HSub.nil _))))))
  ·
    refine Ends.then ?_
    refine RunC.cond rfl (fun h40 => ?_) (fun h40 => ?_)
    · have h40 := of_decide_eq_true h40
      exact absurd h40 (by omega)
    · have h40 := of_decide_eq_false h40
      refine RunC.skip ?_
      refine Ends.then ?_
      refine RunC.seq ?_
      refine RunC.region ?_
      refine RunL.still rfl rfl rfl (Still.move rfl rfl) ?_
      refine RunL.still rfl rfl rfl (Still.fieldAddrL (off := 0) (off' := 0) rfl rfl Tryd.underlying24 rfl Tryd.sizeOf22 rfl) ?_
      refine RunL.still rfl rfl rfl (Still.load rfl rfl Tryd.isAgg22 (fun _ hs => cell_nth (hs.at (i := 4) rfl) rfl)) ?_
      refine RunL.still rfl rfl rfl (Still.lenSlice rfl rfl Tryd.underlying22) ?_
      refine RunL.still rfl rfl rfl (Still.mul rfl rfl rfl (fits64 (by omega) (by omega))) ?_
      refine RunL.still rfl rfl rfl (Still.add rfl rfl rfl (fits64 (by omega) (by omega))) ?_
      refine RunL.still rfl rfl rfl (Still.assign rfl rfl) ?_
      refine RunL.nil ?_
      refine Ends.then ?_
      refine RunC.seq ?_
      refine RunC.meetG (γ := Nat × Nat) (keep := [(1, _), (3, _), (8, _), (10, _)]) (hkeep := [_, _, _, _, _]) (fun (b12, b13) => True) (fun (b12, b13) => [(12, .pointer (some ⟨b12, 0, none⟩)), (13, .pointer (some ⟨b13, 0, none⟩))]) (fun (b12, b13) => [HL.obj b12 (.cells #[iv (((inQ (uniD a b) i) / 4 : Nat) : Int), iv (((inQ (uniD a b) i) % 4 : Nat) : Int)] 43 (0, 0)), HL.obj b13 (.cells #[iv (((inQ (uniD a b) (j + 2 * a.cross.length)) / 4 : Nat) : Int), iv (((inQ (uniD a b) (j + 2 * a.cross.length)) % 4 : Nat) : Int)] 43 (0, 0))]) (Fr.Sub.cons rfl (Fr.Sub.cons rfl (Fr.Sub.cons rfl (Fr.Sub.cons rfl (Fr.Sub.nil _))))) (HSub.pick 0 rfl (HSub.pick 0 rfl (HSub.pick 0 rfl (HSub.pick 0 rfl (HSub.pick 0 rfl (HSub.nil _)))))) ?_ ?_
      ·
        refine RunC.draw 8 (.still 0 (.still 1 (.still 3 (.still 4 (.three 2 (.three 5 (.two 6 (.one 7 .done) 7 (.one 6 .done)) 6 (.two 5 (.one 7 .done) 7 (.one 5 .done)) 7 (.two 5 (.one 6 .done) 6 (.one 5 .done))) 6 (.two 2 (.two 5 (.one 7 .done) 7 (.one 5 .done)) 7 (.one 2 (.one 5 .done))) 7 (.two 2 (.two 5 (.one 6 .done) 6 (.one 5 .done)) 6 (.one 2 (.one 5 .done)))))))) (by kernel_rfl) (by kernel_rfl) ?_
        refine RunG.still rfl rfl rfl rfl (Still.loads rfl rfl Tryd.isAgg24 Tryd.sizeOf24 (vs := [_, _]) rfl (fun _ hs => cells_nth (hs.at (i := 0) rfl) ⟨rfl, ⟨rfl, trivial⟩⟩)) ?_
        refine RunG.still rfl rfl rfl rfl (Still.move rfl rfl) ?_
        refine RunG.still rfl rfl rfl rfl (Still.loads rfl rfl Tryd.isAgg24 Tryd.sizeOf24 (vs := [_, _]) rfl (fun _ hs => cells_nth (hs.at (i := 0) rfl) ⟨rfl, ⟨rfl, trivial⟩⟩)) ?_
        refine RunG.still rfl rfl rfl rfl (Still.move rfl rfl) ?_
        refine RunG.three ?_ ?_ ?_
        ·
          refine RunG.grows rfl rfl rfl rfl (Grows.call (vs := #[_, _]) rfl rfl Tryd.call55 (fun w hs => ref_End_in q.1 _ q.2 (uniD a b) i w (DiaAt.of_ownD hU (hs.at (i := 1) rfl)) hU hi0 (by omega))) (fun _ _ => ?_)
          refine RunG.three ?_ ?_ ?_
          ·
            refine RunG.grows rfl rfl rfl rfl (Grows.call (vs := #[_, _]) rfl rfl Tryd.call55 (fun w hs => ref_End_in q.1 _ q.2 (uniD a b) (j + 2 * a.cross.length) w (DiaAt.of_ownD hU (hs.at (i := 1) rfl)) hU (by omega) (by omega))) (fun _ _ => ?_)
            refine RunG.two ?_ ?_
            ·
              refine RunG.grows rfl rfl rfl rfl (Grows.alloc rfl Tryd.zeroValue43) (fun b12 _ => ?_)
              refine RunG.grows rfl rfl rfl rfl (Grows.alloc rfl Tryd.zeroValue43) (fun b13 _ => ?_)
              refine RunG.done ?_
              show RunL _ _ _ [_, _] _ _
              refine RunL.does0 rfl rfl (Does.store rfl rfl rfl (i := 1) rfl Tryd.sizeOf43 rfl (rfl) rfl) (fun _ _ => ?_)
              refine RunL.does0 rfl rfl (Does.store rfl rfl rfl (i := 0) rfl Tryd.sizeOf43 rfl (rfl) rfl) (fun _ _ => ?_)
              refine RunL.nil ?_
              exact Ends.meetG (b12, b13) trivial (Fr.Sub.cons rfl (Fr.Sub.cons rfl (Fr.Sub.nil _))) (Fr.Sub.cons rfl (Fr.Sub.cons rfl (Fr.Sub.cons rfl (Fr.Sub.cons rfl (Fr.Sub.nil _))))) (HSub.pick 1 rfl (HSub.pick 0 rfl (HSub.pick 0 rfl (HSub.pick 0 rfl (HSub.pick 0 rfl (HSub.pick 0 rfl (HSub.pick 0 rfl (HSub.nil _))))))))
            ·
              refine RunG.grows rfl rfl rfl rfl (Grows.alloc rfl Tryd.zeroValue43) (fun b13 _ => ?_)
              refine RunG.grows rfl rfl rfl rfl (Grows.alloc rfl Tryd.zeroValue43) (fun b12 _ => ?_)
              refine RunG.done ?_
              show RunL _ _ _ [_, _] _ _
              refine RunL.does0 rfl rfl (Does.store rfl rfl rfl (i := 0) rfl Tryd.sizeOf43 rfl (rfl) rfl) (fun _ _ => ?_)
              refine RunL.does0 rfl rfl (Does.store rfl rfl rfl (i := 1) rfl Tryd.sizeOf43 rfl (rfl) rfl) (fun _ _ => ?_)
              refine RunL.nil ?_
              exact Ends.meetG (b12, b13) trivial (Fr.Sub.cons rfl (Fr.Sub.cons rfl (Fr.Sub.nil _))) (Fr.Sub.cons rfl (Fr.Sub.cons rfl (Fr.Sub.cons rfl (Fr.Sub.cons rfl (Fr.Sub.nil _))))) (HSub.pick 0 rfl (HSub.pick 0 rfl (HSub.pick 0 rfl (HSub.pick 0 rfl (HSub.pick 0 rfl (HSub.pick 0 rfl (HSub.pick 0 rfl (HSub.nil _))))))))
          ·
            refine RunG.grows rfl rfl rfl rfl (Grows.alloc rfl Tryd.zeroValue43) (fun b12 _ => ?_)
            refine RunG.two ?_ ?_
            ·
              refine RunG.grows rfl rfl rfl rfl (Grows.call (vs := #[_, _]) rfl rfl Tryd.call55 (fun w hs => ref_End_in q.1 _ q.2 (uniD a b) (j + 2 * a.cross.length) w (DiaAt.of_ownD hU (hs.at (i := 2) rfl)) hU (by omega) (by omega))) (fun _ _ => ?_)
              refine RunG.grows rfl rfl rfl rfl (Grows.alloc rfl Tryd.zeroValue43) (fun b13 _ => ?_)
              refine RunG.done ?_
              show RunL _ _ _ [_, _] _ _
              refine RunL.does0 rfl rfl (Does.store rfl rfl rfl (i := 1) rfl Tryd.sizeOf43 rfl (rfl) rfl) (fun _ _ => ?_)
              refine RunL.does0 rfl rfl (Does.store rfl rfl rfl (i := 0) rfl Tryd.sizeOf43 rfl (rfl) rfl) (fun _ _ => ?_)
              refine RunL.nil ?_
              exact Ends.meetG (b12, b13) trivial (Fr.Sub.cons rfl (Fr.Sub.cons rfl (Fr.Sub.nil _))) (Fr.Sub.cons rfl (Fr.Sub.cons rfl (Fr.Sub.cons rfl (Fr.Sub.cons rfl (Fr.Sub.nil _))))) (HSub.pick 1 rfl (HSub.pick 0 rfl (HSub.pick 0 rfl (HSub.pick 0 rfl (HSub.pick 0 rfl (HSub.pick 0 rfl (HSub.pick 0 rfl (HSub.nil _))))))))
            ·
              refine RunG.grows rfl rfl rfl rfl (Grows.alloc rfl Tryd.zeroValue43) (fun b13 _ => ?_)
              refine RunG.grows rfl rfl rfl rfl (Grows.call (vs := #[_, _]) rfl rfl Tryd.call55 (fun w hs => ref_End_in q.1 _ q.2 (uniD a b) (j + 2 * a.cross.length) w (DiaAt.of_ownD hU (hs.at (i := 3) rfl)) hU (by omega) (by omega))) (fun _ _ => ?_)
              refine RunG.done ?_
              show RunL _ _ _ [_, _] _ _
              refine RunL.does0 rfl rfl (Does.store rfl rfl rfl (i := 1) rfl Tryd.sizeOf43 rfl (rfl) rfl) (fun _ _ => ?_)
              refine RunL.does0 rfl rfl (Does.store rfl rfl rfl (i := 0) rfl Tryd.sizeOf43 rfl (rfl) rfl) (fun _ _ => ?_)
              refine RunL.nil ?_
              exact Ends.meetG (b12, b13) trivial (Fr.Sub.cons rfl (Fr.Sub.cons rfl (Fr.Sub.nil _))) (Fr.Sub.cons rfl (Fr.Sub.cons rfl (Fr.Sub.cons rfl (Fr.Sub.cons rfl (Fr.Sub.nil _))))) (HSub.pick 1 rfl (HSub.pick 0 rfl (HSub.pick 0 rfl (HSub.pick 0 rfl (HSub.pick 0 rfl (HSub.pick 0 rfl (HSub.pick 0 rfl (HSub.nil _))))))))
          ·
            refine RunG.grows rfl rfl rfl rfl (Grows.alloc rfl Tryd.zeroValue43) (fun b13 _ => ?_)
            refine RunG.two ?_ ?_
            ·
              refine RunG.grows rfl rfl rfl rfl (Grows.call (vs := #[_, _]) rfl rfl Tryd.call55 (fun w hs => ref_End_in q.1 _ q.2 (uniD a b) (j + 2 * a.cross.length) w (DiaAt.of_ownD hU (hs.at (i := 2) rfl)) hU (by omega) (by omega))) (fun _ _ => ?_)
              refine RunG.grows rfl rfl rfl rfl (Grows.alloc rfl Tryd.zeroValue43) (fun b12 _ => ?_)
              refine RunG.done ?_
              show RunL _ _ _ [_, _] _ _
              refine RunL.does0 rfl rfl (Does.store rfl rfl rfl (i := 0) rfl Tryd.sizeOf43 rfl (rfl) rfl) (fun _ _ => ?_)
              refine RunL.does0 rfl rfl (Does.store rfl rfl rfl (i := 1) rfl Tryd.sizeOf43 rfl (rfl) rfl) (fun _ _ => ?_)
              refine RunL.nil ?_
              exact Ends.meetG (b12, b13) trivial (Fr.Sub.cons rfl (Fr.Sub.cons rfl (Fr.Sub.nil _))) (Fr.Sub.cons rfl (Fr.Sub.cons rfl (Fr.Sub.cons rfl (Fr.Sub.cons rfl (Fr.Sub.nil _))))) (HSub.pick 0 rfl (HSub.pick 0 rfl (HSub.pick 0 rfl (HSub.pick 0 rfl (HSub.pick 0 rfl (HSub.pick 0 rfl (HSub.pick 0 rfl (HSub.nil _))))))))
            ·
              refine RunG.grows rfl rfl rfl rfl (Grows.alloc rfl Tryd.zeroValue43) (fun b12 _ => ?_)
              refine RunG.grows rfl rfl rfl rfl (Grows.call (vs := #[_, _]) rfl rfl Tryd.call55 (fun w hs => ref_End_in q.1 _ q.2 (uniD a b) (j + 2 * a.cross.length) w (DiaAt.of_ownD hU (hs.at (i := 3) rfl)) hU (by omega) (by omega))) (fun _ _ => ?_)
              refine RunG.done ?_
              show RunL _ _ _ [_, _] _ _
              refine RunL.does0 rfl rfl (Does.store rfl rfl rfl (i := 0) rfl Tryd.sizeOf43 rfl (rfl) rfl) (fun _ _ => ?_)
              refine RunL.does0 rfl rfl (Does.store rfl rfl rfl (i := 1) rfl Tryd.sizeOf43 rfl (rfl) rfl) (fun _ _ => ?_)
              refine RunL.nil ?_
              exact Ends.meetG (b12, b13) trivial (Fr.Sub.cons rfl (Fr.Sub.cons rfl (Fr.Sub.nil _))) (Fr.Sub.cons rfl (Fr.Sub.cons rfl (Fr.Sub.cons rfl (Fr.Sub.cons rfl (Fr.Sub.nil _))))) (HSub.pick 0 rfl (HSub.pick 0 rfl (HSub.pick 0 rfl (HSub.pick 0 rfl (HSub.pick 0 rfl (HSub.pick 0 rfl (HSub.pick 0 rfl (HSub.nil _))))))))
        ·
          refine RunG.grows rfl rfl rfl rfl (Grows.alloc rfl Tryd.zeroValue43) (fun b12 _ => ?_)
          refine RunG.two ?_ ?_
          ·
            refine RunG.grows rfl rfl rfl rfl (Grows.call (vs := #[_, _]) rfl rfl Tryd.call55 (fun w hs => ref_End_in q.1 _ q.2 (uniD a b) i w (DiaAt.of_ownD hU (hs.at (i := 2) rfl)) hU hi0 (by omega))) (fun _ _ => ?_)
            refine RunG.two ?_ ?_
            ·
              refine RunG.grows rfl rfl rfl rfl (Grows.call (vs := #[_, _]) rfl rfl Tryd.call55 (fun w hs => ref_End_in q.1 _ q.2 (uniD a b) (j + 2 * a.cross.length) w (DiaAt.of_ownD hU (hs.at (i := 2) rfl)) hU (by omega) (by omega))) (fun _ _ => ?_)
              refine RunG.grows rfl rfl rfl rfl (Grows.alloc rfl Tryd.zeroValue43) (fun b13 _ => ?_)
              refine RunG.done ?_
              show RunL _ _ _ [_, _] _ _
              refine RunL.does0 rfl rfl (Does.store rfl rfl rfl (i := 1) rfl Tryd.sizeOf43 rfl (rfl) rfl) (fun _ _ => ?_)
              refine RunL.does0 rfl rfl (Does.store rfl rfl rfl (i := 0) rfl Tryd.sizeOf43 rfl (rfl) rfl) (fun _ _ => ?_)
              refine RunL.nil ?_
              exact Ends.meetG (b12, b13) trivial (Fr.Sub.cons rfl (Fr.Sub.cons rfl (Fr.Sub.nil _))) (Fr.Sub.cons rfl (Fr.Sub.cons rfl (Fr.Sub.cons rfl (Fr.Sub.cons rfl (Fr.Sub.nil _))))) (HSub.pick 1 rfl (HSub.pick 0 rfl (HSub.pick 0 rfl (HSub.pick 0 rfl (HSub.pick 0 rfl (HSub.pick 0 rfl (HSub.pick 0 rfl (HSub.nil _))))))))
            ·
              refine RunG.grows rfl rfl rfl rfl (Grows.alloc rfl Tryd.zeroValue43) (fun b13 _ => ?_)
              refine RunG.grows rfl rfl rfl rfl (Grows.call (vs := #[_, _]) rfl rfl Tryd.call55 (fun w hs => ref_End_in q.1 _ q.2 (uniD a b) (j + 2 * a.cross.length) w (DiaAt.of_ownD hU (hs.at (i := 3) rfl)) hU (by omega) (by omega))) (fun _ _ => ?_)
              refine RunG.done ?_
              show RunL _ _ _ [_, _] _ _
              refine RunL.does0 rfl rfl (Does.store rfl rfl rfl (i := 1) rfl Tryd.sizeOf43 rfl (rfl) rfl) (fun _ _ => ?_)
              refine RunL.does0 rfl rfl (Does.store rfl rfl rfl (i := 0) rfl Tryd.sizeOf43 rfl (rfl) rfl) (fun _ _ => ?_)
              refine RunL.nil ?_
              exact Ends.meetG (b12, b13) trivial (Fr.Sub.cons rfl (Fr.Sub.cons rfl (Fr.Sub.nil _))) (Fr.Sub.cons rfl (Fr.Sub.cons rfl (Fr.Sub.cons rfl (Fr.Sub.cons rfl (Fr.Sub.nil _))))) (HSub.pick 1 rfl (HSub.pick 0 rfl (HSub.pick 0 rfl (HSub.pick 0 rfl (HSub.pick 0 rfl (HSub.pick 0 rfl (HSub.pick 0 rfl (HSub.nil _))))))))
          ·
            refine RunG.grows rfl rfl rfl rfl (Grows.alloc rfl Tryd.zeroValue43) (fun b13 _ => ?_)
            refine RunG.grows rfl rfl rfl rfl (Grows.call (vs := #[_, _]) rfl rfl Tryd.call55 (fun w hs => ref_End_in q.1 _ q.2 (uniD a b) i w (DiaAt.of_ownD hU (hs.at (i := 3) rfl)) hU hi0 (by omega))) (fun _ _ => ?_)
            refine RunG.grows rfl rfl rfl rfl (Grows.call (vs := #[_, _]) rfl rfl Tryd.call55 (fun w hs => ref_End_in q.1 _ q.2 (uniD a b) (j + 2 * a.cross.length) w (DiaAt.of_ownD hU (hs.at (i := 3) rfl)) hU (by omega) (by omega))) (fun _ _ => ?_)
            refine RunG.done ?_
            show RunL _ _ _ [_, _] _ _
            refine RunL.does0 rfl rfl (Does.store rfl rfl rfl (i := 1) rfl Tryd.sizeOf43 rfl (rfl) rfl) (fun _ _ => ?_)
            refine RunL.does0 rfl rfl (Does.store rfl rfl rfl (i := 0) rfl Tryd.sizeOf43 rfl (rfl) rfl) (fun _ _ => ?_)
            refine RunL.nil ?_
            exact Ends.meetG (b12, b13) trivial (Fr.Sub.cons rfl (Fr.Sub.cons rfl (Fr.Sub.nil _))) (Fr.Sub.cons rfl (Fr.Sub.cons rfl (Fr.Sub.cons rfl (Fr.Sub.cons rfl (Fr.Sub.nil _))))) (HSub.pick 1 rfl (HSub.pick 0 rfl (HSub.pick 0 rfl (HSub.pick 0 rfl (HSub.pick 0 rfl (HSub.pick 0 rfl (HSub.pick 0 rfl (HSub.nil _))))))))
        ·
          refine RunG.grows rfl rfl rfl rfl (Grows.alloc rfl Tryd.zeroValue43) (fun b13 _ => ?_)
          refine RunG.two ?_ ?_
          ·
            refine RunG.grows rfl rfl rfl rfl (Grows.call (vs := #[_, _]) rfl rfl Tryd.call55 (fun w hs => ref_End_in q.1 _ q.2 (uniD a b) i w (DiaAt.of_ownD hU (hs.at (i := 2) rfl)) hU hi0 (by omega))) (fun _ _ => ?_)
            refine RunG.two ?_ ?_
            ·
              refine RunG.grows rfl rfl rfl rfl (Grows.call (vs := #[_, _]) rfl rfl Tryd.call55 (fun w hs => ref_End_in q.1 _ q.2 (uniD a b) (j + 2 * a.cross.length) w (DiaAt.of_ownD hU (hs.at (i := 2) rfl)) hU (by omega) (by omega))) (fun _ _ => ?_)
              refine RunG.grows rfl rfl rfl rfl (Grows.alloc rfl Tryd.zeroValue43) (fun b12 _ => ?_)
              refine RunG.done ?_
              show RunL _ _ _ [_, _] _ _
              refine RunL.does0 rfl rfl (Does.store rfl rfl rfl (i := 0) rfl Tryd.sizeOf43 rfl (rfl) rfl) (fun _ _ => ?_)
              refine RunL.does0 rfl rfl (Does.store rfl rfl rfl (i := 1) rfl Tryd.sizeOf43 rfl (rfl) rfl) (fun _ _ => ?_)
              refine RunL.nil ?_
              exact Ends.meetG (b12, b13) trivial (Fr.Sub.cons rfl (Fr.Sub.cons rfl (Fr.Sub.nil _))) (Fr.Sub.cons rfl (Fr.Sub.cons rfl (Fr.Sub.cons rfl (Fr.Sub.cons rfl (Fr.Sub.nil _))))) (HSub.pick 0 rfl (HSub.pick 0 rfl (HSub.pick 0 rfl (HSub.pick 0 rfl (HSub.pick 0 rfl (HSub.pick 0 rfl (HSub.pick 0 rfl (HSub.nil _))))))))
            ·
              refine RunG.grows rfl rfl rfl rfl (Grows.alloc rfl Tryd.zeroValue43) (fun b12 _ => ?_)
              refine RunG.grows rfl rfl rfl rfl (Grows.call (vs := #[_, _]) rfl rfl Tryd.call55 (fun w hs => ref_End_in q.1 _ q.2 (uniD a b) (j + 2 * a.cross.length) w (DiaAt.of_ownD hU (hs.at (i := 3) rfl)) hU (by omega) (by omega))) (fun _ _ => ?_)
              refine RunG.done ?_
              show RunL _ _ _ [_, _] _ _
              refine RunL.does0 rfl rfl (Does.store rfl rfl rfl (i := 0) rfl Tryd.sizeOf43 rfl (rfl) rfl) (fun _ _ => ?_)
              refine RunL.does0 rfl rfl (Does.store rfl rfl rfl (i := 1) rfl Tryd.sizeOf43 rfl (rfl) rfl) (fun _ _ => ?_)
              refine RunL.nil ?_
              exact Ends.meetG (b12, b13) trivial (Fr.Sub.cons rfl (Fr.Sub.cons rfl (Fr.Sub.nil _))) (Fr.Sub.cons rfl (Fr.Sub.cons rfl (Fr.Sub.cons rfl (Fr.Sub.cons rfl (Fr.Sub.nil _))))) (HSub.pick 0 rfl (HSub.pick 0 rfl (HSub.pick 0 rfl (HSub.pick 0 rfl (HSub.pick 0 rfl (HSub.pick 0 rfl (HSub.pick 0 rfl (HSub.nil _))))))))
          ·
            refine RunG.grows rfl rfl rfl rfl (Grows.alloc rfl Tryd.zeroValue43) (fun b12 _ => ?_)
            refine RunG.grows rfl rfl rfl rfl (Grows.call (vs := #[_, _]) rfl rfl Tryd.call55 (fun w hs => ref_End_in q.1 _ q.2 (uniD a b) i w (DiaAt.of_ownD hU (hs.at (i := 3) rfl)) hU hi0 (by omega))) (fun _ _ => ?_)
            refine RunG.grows rfl rfl rfl rfl (Grows.call (vs := #[_, _]) rfl rfl Tryd.call55 (fun w hs => ref_End_in q.1 _ q.2 (uniD a b) (j + 2 * a.cross.length) w (DiaAt.of_ownD hU (hs.at (i := 3) rfl)) hU (by omega) (by omega))) (fun _ _ => ?_)
            refine RunG.done ?_
            show RunL _ _ _ [_, _] _ _
            refine RunL.does0 rfl rfl (Does.store rfl rfl rfl (i := 0) rfl Tryd.sizeOf43 rfl (rfl) rfl) (fun _ _ => ?_)
            refine RunL.does0 rfl rfl (Does.store rfl rfl rfl (i := 1) rfl Tryd.sizeOf43 rfl (rfl) rfl) (fun _ _ => ?_)
            refine RunL.nil ?_
            exact Ends.meetG (b12, b13) trivial (Fr.Sub.cons rfl (Fr.Sub.cons rfl (Fr.Sub.nil _))) (Fr.Sub.cons rfl (Fr.Sub.cons rfl (Fr.Sub.cons rfl (Fr.Sub.cons rfl (Fr.Sub.nil _))))) (HSub.pick 0 rfl (HSub.pick 0 rfl (HSub.pick 0 rfl (HSub.pick 0 rfl (HSub.pick 0 rfl (HSub.pick 0 rfl (HSub.pick 0 rfl (HSub.nil _))))))))
      · rintro ⟨b12, b13⟩ _
        refine Ends.then ?_
        refine RunC.seq ?_
        refine RunC.draw 10 (.still 0 (.still 1 (.still 2 (.still 3 (.still 4 (.still 5 (.still 6 (.still 7 (.still 8 (.still 9 .done)))))))))) (by kernel_rfl) (by kernel_rfl) ?_
        refine RunG.still rfl rfl rfl rfl (Still.fieldAddrL (off := 0) (off' := 0) rfl rfl Tryd.underlying24 rfl Tryd.sizeOf22 rfl) ?_
        refine RunG.still rfl rfl rfl rfl (Still.load rfl rfl Tryd.isAgg22 (fun _ hs => cell_nth (hs.at (i := 2) rfl) rfl)) ?_
        refine RunG.still rfl rfl rfl rfl (Still.fieldAddrL (off := 0) (off' := 0) rfl rfl Tryd.underlying43 rfl Tryd.sizeOf3 rfl) ?_
        refine RunG.still rfl rfl rfl rfl (Still.load rfl rfl Tryd.isAgg3 (fun _ hs => cell_nth (hs.at (i := 0) rfl) rfl)) ?_
        refine RunG.still rfl rfl rfl rfl (Still.fieldAddrL (off := 0) (off' := 1) rfl rfl Tryd.underlying43 rfl Tryd.sizeOf3 rfl) ?_
        refine RunG.still rfl rfl rfl rfl (Still.load rfl rfl Tryd.isAgg3 (fun _ hs => cell_nth (hs.at (i := 0) rfl) rfl)) ?_
        refine RunG.still rfl rfl rfl rfl (Still.move rfl rfl) ?_
        refine RunG.still rfl rfl rfl rfl (Still.indexOwnI (m := ((inQ (uniD a b) i) / 4)) rfl rfl rfl Tryd.underlying22 Tryd.sizeOf69 (fun _ hs => hs.own (i := 3) rfl) (rfl) (by omega)) ?_
        refine RunG.still rfl rfl rfl rfl (Still.fieldAddrA (off := 0) rfl rfl Tryd.underlying69 rfl Tryd.sizeOf67 rfl) ?_
        refine RunG.still rfl rfl rfl rfl (Still.indexArrE ((inQ (uniD a b) i) % 4) rfl rfl rfl Tryd.underlying67 Tryd.sizeOf3 (rfl) (by omega)) ?_
        refine RunG.done ?_
        show RunL _ _ _ [_] _ _
        refine RunL.does0 rfl rfl (Does.storeOwn1 (xs' := ((setQ (uniD a b) (inQ (uniD a b) i) (j + 2 * a.cross.length)).cross.flatMap encCr)) rfl rfl ((congrArg (fun z => Addr.add z _) (add_add _ _ _)).trans (add_add _ _ _)) rfl (i := 3) rfl Tryd.sizeOf3 rfl (by rw [flat_len encCr_len]; omega) (by rw [Nat.mul_one, Nat.add_zero]; exact setQ_flat hX _)) (fun _ _ => ?_)
        refine RunL.nil ?_
        refine Ends.then ?_
        refine RunC.seq ?_
        refine RunC.draw 10 (.still 0 (.still 1 (.still 2 (.still 3 (.still 4 (.still 5 (.still 6 (.still 7 (.still 8 (.still 9 .done)))))))))) (by kernel_rfl) (by kernel_rfl) ?_
        refine RunG.still rfl rfl rfl rfl (Still.fieldAddrL (off := 0) (off' := 0) rfl rfl Tryd.underlying24 rfl Tryd.sizeOf22 rfl) ?_
        refine RunG.still rfl rfl rfl rfl (Still.load rfl rfl Tryd.isAgg22 (fun _ hs => cell_nth (hs.at (i := 2) rfl) rfl)) ?_
        refine RunG.still rfl rfl rfl rfl (Still.fieldAddrL (off := 0) (off' := 0) rfl rfl Tryd.underlying43 rfl Tryd.sizeOf3 rfl) ?_
        refine RunG.still rfl rfl rfl rfl (Still.load rfl rfl Tryd.isAgg3 (fun _ hs => cell_nth (hs.at (i := 1) rfl) rfl)) ?_
        refine RunG.still rfl rfl rfl rfl (Still.fieldAddrL (off := 0) (off' := 1) rfl rfl Tryd.underlying43 rfl Tryd.sizeOf3 rfl) ?_
        refine RunG.still rfl rfl rfl rfl (Still.load rfl rfl Tryd.isAgg3 (fun _ hs => cell_nth (hs.at (i := 1) rfl) rfl)) ?_
        refine RunG.still rfl rfl rfl rfl (Still.move rfl rfl) ?_
        refine RunG.still rfl rfl rfl rfl (Still.indexOwnI (m := ((inQ (uniD a b) (j + 2 * a.cross.length)) / 4)) rfl rfl rfl Tryd.underlying22 Tryd.sizeOf69 (fun _ hs => hs.own (i := 3) rfl) (rfl) (by omega)) ?_
        refine RunG.still rfl rfl rfl rfl (Still.fieldAddrA (off := 0) rfl rfl Tryd.underlying69 rfl Tryd.sizeOf67 rfl) ?_
        refine RunG.still rfl rfl rfl rfl (Still.indexArrE ((inQ (uniD a b) (j + 2 * a.cross.length)) % 4) rfl rfl rfl Tryd.underlying67 Tryd.sizeOf3 (rfl) (by omega)) ?_
        refine RunG.done ?_
        show RunL _ _ _ [_] _ _
        refine RunL.does0 rfl rfl (Does.storeOwn1 (xs' := ((splD a b i j).cross.flatMap encCr)) rfl rfl ((congrArg (fun z => Addr.add z _) (add_add _ _ _)).trans (add_add _ _ _)) rfl (i := 3) rfl Tryd.sizeOf3 rfl (by rw [flat_len encCr_len, setQ_len]; omega) (by rw [Nat.mul_one, Nat.add_zero]; exact setQ_flat hY2 _)) (fun _ _ => ?_)
        refine RunL.nil ?_
        refine Ends.then ?_
        refine RunC.seq ?_
        refine RunC.region ?_
        refine RunL.still rfl rfl rfl (Still.loads rfl rfl Tryd.isAgg24 Tryd.sizeOf24 (vs := [_, _]) rfl (fun _ hs => cells_nth (hs.at (i := 2) rfl) ⟨rfl, ⟨rfl, trivial⟩⟩)) ?_
        refine RunL.does0 rfl rfl (Does.store rfl rfl rfl (i := 4) rfl Tryd.sizeOf24 rfl (rfl) rfl) (fun _ _ => ?_)
        refine RunL.still rfl rfl rfl (Still.assign rfl rfl) ?_
        refine RunL.nil ?_
        refine Ends.then ?_
        refine RunC.ret ?_
        refine Ends.leave (.inl rfl) (fun _ _ ok => results2 Tryd.results32 (Holds.cell rfl (fun _ hs => load_cells (vs := [_, _]) Tryd.isAgg24 Tryd.sizeOf24 rfl (cells_nth (hs.at (i := 4) rfl) ⟨rfl, ⟨rfl, trivial⟩⟩))) (Holds.tmp rfl) ok) (fun w1 hs => ?_)
        exact Ret.intro q (by rw [OKB, splD_len]; exact hq) (by show _ = Value.tuple #[diaV q.1 q.2 (splD a b i j), iv 0]; simp only [diaV, splD_len]; rfl) (HSub.pick 3 (by rw [ownD_spl]; rfl) (HSub.nil _)) hs

end Go.Proofs
