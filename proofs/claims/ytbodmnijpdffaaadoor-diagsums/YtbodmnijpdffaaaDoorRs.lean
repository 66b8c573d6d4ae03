/- Equality of diagrams, and their count of components, by the reference. -/
import Derived.Test.YtbodmnijpdffaaaDoorRa
import Derived.Test.YtbodmnijpdffaaaDoorDh
import Derived.Test.YtbodmnijpdffaaaDoorDa
import Derived.Test.YtbodmnijpdffaaaDoorProg
import Derived.KernelRfl
namespace Go.Proofs
open Go Go.V
set_option maxRecDepth 20000
theorem eq69 (a b c f s a1 b1 c1 f1 s1 : Int) (w : World) : (Op.equalIn 10000 69 (.agg #[iv a, iv b, iv c, iv f, iv s]) (.agg #[iv a1, iv b1, iv c1, iv f1, iv s1])).run Tryd.prog w = .ok (decide (a = a1 ∧ b = b1 ∧ c = c1 ∧ f = f1 ∧ s = s1)) w := eq_five Tryd.underlying69 Tryd.stoodInHeld69 Tryd.underlying67 Tryd.underlying3 Tryd.underlying3 (by kernel_rfl : Tryd.prog.info? 3 = some Tryd.t3) (by kernel_rfl) Tryd.sizeOf67 (by decide) (by decide) rfl rfl 9997 _ _ _ _ _ _ _ _ _ _ w

theorem ref_Same (ba bb : Option Addr) (A B : Addr) (ca cb : Nat) (a b : Dia) (w : World) (hda : DiaAt w ba A a) (hdb : DiaAt w bb B b) : Gives Tryd.prog 22 #[diaV ba ca a, diaV bb cb b] w Nil (fun _ : Unit => True) (fun _ => .bool (decide (a = b))) (fun _ => []) := by
  have hlen := hda.len
  have hlen2 := hdb.len
  refine fn_of_run (S := Nil) (args := [diaV ba ca a, diaV bb cb b]) (n := 38) (L := []) Tryd.func22 rfl Tryd.ntmps22 (Nat.le_of_ble_eq_true rfl) (Sym.nil _ _) ?_
  change RunC _ _ _ [(0, _), (1, _)] _
  refine RunC.seq ?_
  refine RunC.region ?_
  refine RunL.grows rfl rfl rfl (Grows.box rfl rfl) (fun b2 _ => ?_)
  refine RunL.grows rfl rfl rfl (Grows.box rfl rfl) (fun b3 _ => ?_)
  refine RunL.still rfl rfl rfl (Still.assign rfl rfl) ?_
  refine RunL.nil ?_
  refine Ends.then ?_
  refine RunC.seq ?_
  refine RunC.seq ?_
  refine RunC.meet1 (chg := [(19, .bool (decide (a.loops ≠ b.loops ∨ (a.cross.length : Int) ≠ (b.cross.length : Int))))]) (keep := [(2, _), (3, _)]) (hkeep := [_, _]) (Fr.Sub.cons rfl (Fr.Sub.cons rfl (Fr.Sub.nil _))) (HSub.pick 0 rfl (HSub.pick 0 rfl (HSub.nil _))) ?_ ?_
  ·
    refine RunC.region ?_
    refine RunL.still rfl rfl rfl (Still.fieldAddrL (off := 0) (off' := 1) rfl rfl Tryd.underlying24 rfl Tryd.sizeOf3 rfl) ?_
    refine RunL.still rfl rfl rfl (Still.load rfl rfl Tryd.isAgg3 (fun _ hs => cell_nth (hs.at (i := 1) rfl) rfl)) ?_
    refine RunL.still rfl rfl rfl (Still.fieldAddrL (off := 0) (off' := 1) rfl rfl Tryd.underlying24 rfl Tryd.sizeOf3 rfl) ?_
    refine RunL.still rfl rfl rfl (Still.load rfl rfl Tryd.isAgg3 (fun _ hs => cell_nth (hs.at (i := 0) rfl) rfl)) ?_
    refine RunL.still rfl rfl rfl (Still.neq rfl rfl rfl) ?_
    refine RunL.still rfl rfl rfl (Still.move rfl rfl) ?_
    refine RunL.split (t := 11) rfl (fun h11 => ?_) (fun h11 => ?_)
    · have h11 := of_decide_eq_true h11
      refine RunL.off rfl rfl rfl ?_
      refine RunL.off rfl rfl rfl ?_
      refine RunL.off rfl rfl rfl ?_
      refine RunL.off rfl rfl rfl ?_
      refine RunL.off rfl rfl rfl ?_
      refine RunL.off rfl rfl rfl ?_
      refine RunL.off rfl rfl rfl ?_
      refine RunL.still rfl rfl rfl (Still.pickT rfl rfl rfl) ?_
      refine RunL.nil ?_
      exact Ends.meet1 (Fr.Sub.cons (by first | exact congrArg (fun b => some (Value.bool b)) (decide_eq_true (by omega)).symm | exact congrArg (fun b => some (Value.bool b)) (decide_eq_false (by omega)).symm | exact congrArg (fun b => some (Value.bool b)) (decide_eq_decide.2 (by omega))) (Fr.Sub.nil _)) (Fr.Sub.cons rfl (Fr.Sub.cons rfl (Fr.Sub.nil _))) (HSub.pick 0 rfl (HSub.pick 0 rfl (HSub.nil _)))
    · have h11 := of_decide_eq_false h11
      refine RunL.still rfl rfl rfl (Still.fieldAddrL (off := 0) (off' := 0) rfl rfl Tryd.underlying24 rfl Tryd.sizeOf22 rfl) ?_
      refine RunL.still rfl rfl rfl (Still.load rfl rfl Tryd.isAgg22 (fun _ hs => cell_nth (hs.at (i := 1) rfl) rfl)) ?_
      refine RunL.still rfl rfl rfl (Still.lenSlice rfl rfl Tryd.underlying22) ?_
      refine RunL.still rfl rfl rfl (Still.fieldAddrL (off := 0) (off' := 0) rfl rfl Tryd.underlying24 rfl Tryd.sizeOf22 rfl) ?_
      refine RunL.still rfl rfl rfl (Still.load rfl rfl Tryd.isAgg22 (fun _ hs => cell_nth (hs.at (i := 0) rfl) rfl)) ?_
      refine RunL.still rfl rfl rfl (Still.lenSlice rfl rfl Tryd.underlying22) ?_
      refine RunL.still rfl rfl rfl (Still.neq rfl rfl rfl) ?_
      refine RunL.still rfl rfl rfl (Still.pickF rfl rfl rfl) ?_
      refine RunL.nil ?_
      exact Ends.meet1 (Fr.Sub.cons (by first | exact congrArg (fun b => some (Value.bool b)) (decide_eq_true (by omega)).symm | exact congrArg (fun b => some (Value.bool b)) (decide_eq_false (by omega)).symm | exact congrArg (fun b => some (Value.bool b)) (decide_eq_decide.2 (by omega))) (Fr.Sub.nil _)) (Fr.Sub.cons rfl (Fr.Sub.cons rfl (Fr.Sub.nil _))) (HSub.pick 0 rfl (HSub.pick 0 rfl (HSub.nil _)))
  ·
    refine Ends.then ?_
    refine RunC.cond rfl (fun h19 => ?_) (fun h19 => ?_)
    · have h19 := of_decide_eq_true h19
      refine RunC.seq ?_
      refine RunC.region ?_
      refine RunL.still rfl rfl rfl (Still.assign rfl rfl) ?_
      refine RunL.nil ?_
      refine Ends.then ?_
      refine RunC.ret ?_
      refine Ends.then_ret ?_
      refine Ends.leave (.inl rfl) (fun _ _ ok => results1 Tryd.results22 (Holds.tmp rfl) ok) (fun w1 hs => ?_)
      exact Ret.intro () trivial (congrArg Value.bool (decide_eq_false (fun e => by subst e; omega)).symm) (HSub.nil _) hs
    · have h19 := of_decide_eq_false h19
      refine RunC.skip ?_
      refine Ends.then ?_
      refine RunC.seq ?_
      refine RunC.seq ?_
      refine RunC.region ?_
      refine RunL.still rfl rfl rfl (Still.assign rfl rfl) ?_
      refine RunL.nil ?_
      refine Ends.then ?_
      refine RunC.block ?_
      refine RunC.loop2 (γ := Nat) (keep := [(2, _), (3, _)]) (hkeep := [_, _]) (fun i => i ≤ a.cross.length ∧ ∀ j, j < i → a.cross[j]? = b.cross[j]?) (fun i => a.cross.length - i) (fun i => [(5, iv i)]) (fun i => []) 0 ⟨by omega, fun j h => by omega⟩ (Fr.Sub.cons rfl (Fr.Sub.nil _)) (Fr.Sub.cons rfl (Fr.Sub.cons rfl (Fr.Sub.nil _))) (HSub.pick 0 rfl (HSub.pick 0 rfl (HSub.nil _))) ?_
      rintro i ⟨hi, he⟩
      refine RunC.seq ?_
      refine RunC.seq ?_
      refine RunC.region ?_
      refine RunL.still rfl rfl rfl (Still.move rfl rfl) ?_
      refine RunL.still rfl rfl rfl (Still.fieldAddrL (off := 0) (off' := 0) rfl rfl Tryd.underlying24 rfl Tryd.sizeOf22 rfl) ?_
      refine RunL.still rfl rfl rfl (Still.load rfl rfl Tryd.isAgg22 (fun _ hs => cell_nth (hs.at (i := 1) rfl) rfl)) ?_
      refine RunL.still rfl rfl rfl (Still.lenSlice rfl rfl Tryd.underlying22) ?_
      refine RunL.still rfl rfl rfl (Still.lss rfl rfl rfl) ?_
      refine RunL.nil ?_
      refine Ends.then ?_
      refine RunC.cond rfl (fun h24 => ?_) (fun h24 => ?_)
      · have h24 := of_decide_eq_true h24
        obtain ⟨x, hx⟩ := get_of_lt (l := a.cross) (i := i) (by omega)
        obtain ⟨y, hy⟩ := get_of_lt (l := b.cross) (i := i) (by omega)
        refine RunC.skip ?_
        refine Ends.then ?_
        refine RunC.seq ?_
        refine RunC.block ?_
        refine RunC.seq ?_
        refine RunC.draw 10 (.still 0 (.still 1 (.still 2 (.still 3 (.still 4 (.still 5 (.still 6 (.still 7 (.still 8 (.still 9 .done)))))))))) (by kernel_rfl) (by kernel_rfl) ?_
        refine RunG.still rfl rfl rfl rfl (Still.fieldAddrL (off := 0) (off' := 0) rfl rfl Tryd.underlying24 rfl Tryd.sizeOf22 rfl) ?_
        refine RunG.still rfl rfl rfl rfl (Still.load rfl rfl Tryd.isAgg22 (fun _ hs => cell_nth (hs.at (i := 1) rfl) rfl)) ?_
        refine RunG.still rfl rfl rfl rfl (Still.move rfl rfl) ?_
        refine RunG.still rfl rfl rfl rfl (Still.indexSliceN rfl rfl rfl Tryd.underlying22 Tryd.sizeOf69 (hda.base (by omega)) (by omega)) ?_
        refine RunG.still rfl rfl rfl rfl (Still.loads rfl rfl Tryd.isAgg69 Tryd.sizeOf69 (vs := [iv x.a0, iv x.a1, iv x.a2, iv x.a3, iv x.s]) rfl (fun _ hs => Cells.base0 (hda.cross hx) hs)) ?_
        refine RunG.still rfl rfl rfl rfl (Still.fieldAddrL (off := 0) (off' := 0) rfl rfl Tryd.underlying24 rfl Tryd.sizeOf22 rfl) ?_
        refine RunG.still rfl rfl rfl rfl (Still.load rfl rfl Tryd.isAgg22 (fun _ hs => cell_nth (hs.at (i := 0) rfl) rfl)) ?_
        refine RunG.still rfl rfl rfl rfl (Still.move rfl rfl) ?_
        refine RunG.still rfl rfl rfl rfl (Still.indexSliceN rfl rfl rfl Tryd.underlying22 Tryd.sizeOf69 (hdb.base (by omega)) (by omega)) ?_
        refine RunG.still rfl rfl rfl rfl (Still.loads rfl rfl Tryd.isAgg69 Tryd.sizeOf69 (vs := [iv y.a0, iv y.a1, iv y.a2, iv y.a3, iv y.s]) rfl (fun _ hs => Cells.base0 (hdb.cross hy) hs)) ?_
        refine RunG.done ?_
        show RunL _ _ _ [_] _ _
        refine RunL.still rfl rfl rfl (Still.neqAgg rfl rfl rfl Tryd.eqGuardType69 (fun _ => eq69 _ _ _ _ _ _ _ _ _ _ _)) ?_
        refine RunL.nil ?_
        refine Ends.then ?_
        refine RunC.cond rfl (fun h37 => ?_) (fun h37 => ?_)
        · skip
          refine RunC.seq ?_
          refine RunC.region ?_
          refine RunL.still rfl rfl rfl (Still.assign rfl rfl) ?_
          refine RunL.nil ?_
          refine Ends.then ?_
          refine RunC.ret ?_
          refine Ends.block_ret ?_
          refine Ends.then_ret ?_
          refine Ends.then_ret ?_
          refine Ends.block_ret ?_
          refine Ends.then_ret ?_
          refine Ends.leave (.inl rfl) (fun _ _ ok => results1 Tryd.results22 (Holds.tmp rfl) ok) (fun w2 hs => ?_)
          exact Ret.intro () trivial (congrArg Value.bool (decide_eq_false (fun e => by subst e; rw [hx] at hy; cases hy; simp at h37)).symm) (HSub.nil _) hs
        · skip
          refine RunC.skip ?_
          refine Ends.block ?_
          refine Ends.then ?_
          refine RunC.region ?_
          refine RunL.still rfl rfl rfl (Still.move rfl rfl) ?_
          refine RunL.still rfl rfl rfl (Still.add rfl rfl rfl (fits64 (by omega) (by omega))) ?_
          refine RunL.still rfl rfl rfl (Still.assign rfl rfl) ?_
          refine RunL.nil ?_
          have hxy : x = y := by obtain ⟨x0, x1, x2, x3, xs⟩ := x; obtain ⟨y0, y1, y2, y3, ys⟩ := y; simp at h37; simp [h37]
          refine Ends.again (i + 1) ?_ ?_ (Fr.Sub.app ?_ ?_) ?_
          · exact ⟨by omega, fun j h => by rcases Nat.lt_or_ge j i with h2 | h2; exact he j h2; obtain rfl : j = i := (by omega); rw [hx, hy, hxy]⟩
          · show _ < _; omega
          · exact Fr.Sub.cons rfl (Fr.Sub.nil _)
          · exact Fr.Sub.cons rfl (Fr.Sub.cons rfl (Fr.Sub.nil _))
          · exact HSub.pick 0 rfl (HSub.pick 0 rfl (HSub.nil _))
      · have h24 := of_decide_eq_false h24
        refine RunC.exit ?_
        refine Ends.then_exit ?_
        refine Ends.then_exit ?_
        refine Ends.block_exit ?_
        refine Ends.then ?_
        refine RunC.seq ?_
        refine RunC.region ?_
        refine RunL.still rfl rfl rfl (Still.assign rfl rfl) ?_
        refine RunL.nil ?_
        refine Ends.then ?_
        refine RunC.ret ?_
        refine Ends.leave (.inl rfl) (fun _ _ ok => results1 Tryd.results22 (Holds.tmp rfl) ok) (fun w3 hs => ?_)
        exact Ret.intro () trivial (congrArg Value.bool (decide_eq_true (by have hc : a.cross = b.cross := List.ext_getElem? fun j => (by rcases Nat.lt_or_ge j a.cross.length with h | h; exact he j (by omega); rw [List.getElem?_eq_none (by omega), List.getElem?_eq_none (by omega)]); obtain ⟨ac, al⟩ := a; obtain ⟨bc, bl⟩ := b; simp at h19 hc ⊢; exact ⟨hc, by omega⟩)).symm) (HSub.nil _) hs

theorem ref_Count' (base : Option Addr) (A : Addr) (cap : Nat) (d : Dia) (w : World) (hd : DiaAt w base A d) (hs : SoundP d) : Gives Tryd.prog 17 #[diaV base cap d] w Nil (fun _ : Unit => True) (fun _ => iv ((compCount d : Int) + d.loops)) (fun _ => []) := by
  have h := ref_Count base A cap d w hd hs
  rwa [maxOf_count] at h
theorem ref_Same_eq (ba bb : Option Addr) (A B : Addr) (ca cb : Nat) (a b : Dia) (w : World) (hda : DiaAt w ba A a) (hdb : DiaAt w bb B b) (e : a = b) : Gives Tryd.prog 22 #[diaV ba ca a, diaV bb cb b] w Nil (fun _ : Unit => True) (fun _ => .bool true) (fun _ => []) := by
  have h := ref_Same ba bb A B ca cb a b w hda hdb
  rwa [decide_eq_true e] at h

end Go.Proofs
