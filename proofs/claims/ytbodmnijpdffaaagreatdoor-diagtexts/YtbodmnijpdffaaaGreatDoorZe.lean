/- Equality of diagrams by the program. -/
import Derived.Test.YtbodmnijpdffaaaGreatDoorDg
import Derived.Test.YtbodmnijpdffaaaGreatDoorProg
import Derived.KernelRfl
import Derived.Test.YtbodmnijpdffaaaGreatDoorSh
import Derived.Test.YtbodmnijpdffaaaGreatDoorZc
namespace Go.Proofs
open Go Go.V
set_option maxRecDepth 20000
theorem lib_Equal (ba bb : Option Addr) (A B : Addr) (ca cb : Nat) (a b : Dia) (w : World) (hda : DiaAt w ba A a) (hdb : DiaAt w bb B b) : Gives Tryz.prog 45 #[.slice ba a.cross.length ca, .slice bb b.cross.length cb] w Nil (fun _ : Unit => True) (fun _ => .bool (decide (a.cross = b.cross))) (fun _ => []) := by
  have hlen := hda.len
  have hlen2 := hdb.len
  refine fn_of_run (S := Nil) (args := [.slice ba a.cross.length ca, .slice bb b.cross.length cb]) (n := 26) (L := []) Tryz.func45 rfl Tryz.ntmps45 (Nat.le_of_ble_eq_true rfl) (Sym.nil _ _) ?_
  change RunC _ _ _ [(0, _), (1, _)] _
  refine RunC.seq ?_
  refine RunC.region ?_
  refine RunL.still rfl rfl rfl (Still.assign rfl rfl) ?_
  refine RunL.nil ?_
  refine Ends.then ?_
  refine RunC.seq ?_
  refine RunC.seq ?_
  refine RunC.region ?_
  refine RunL.still rfl rfl rfl (Still.move rfl rfl) ?_
  refine RunL.still rfl rfl rfl (Still.lenSlice rfl rfl Tryz.underlying22) ?_
  refine RunL.still rfl rfl rfl (Still.move rfl rfl) ?_
  refine RunL.still rfl rfl rfl (Still.lenSlice rfl rfl Tryz.underlying22) ?_
  refine RunL.still rfl rfl rfl (Still.neq rfl rfl rfl) ?_
  refine RunL.nil ?_
  refine Ends.then ?_
  refine RunC.cond rfl (fun h10 => ?_) (fun h10 => ?_)
  · have h10 := of_decide_eq_true h10
    refine RunC.seq ?_
    refine RunC.region ?_
    refine RunL.still rfl rfl rfl (Still.assign rfl rfl) ?_
    refine RunL.nil ?_
    refine Ends.then ?_
    refine RunC.ret ?_
    refine Ends.then_ret ?_
    refine Ends.leave (.inl rfl) (fun _ _ ok => results1 Tryz.results45 (Holds.tmp rfl) ok) (fun w1 hs => ?_)
    exact Ret.intro () trivial (congrArg Value.bool (decide_eq_false (fun e => by rw [e] at h10; exact h10 rfl)).symm) (HSub.nil _) hs
  · have h10 := of_decide_eq_false h10
    refine RunC.skip ?_
    refine Ends.then ?_
    refine RunC.seq ?_
    refine RunC.seq ?_
    refine RunC.region ?_
    refine RunL.still rfl rfl rfl (Still.move rfl rfl) ?_
    refine RunL.still rfl rfl rfl (Still.lenSlice rfl rfl Tryz.underlying22) ?_
    refine RunL.still rfl rfl rfl (Still.move rfl rfl) ?_
    refine RunL.nil ?_
    refine Ends.then ?_
    refine RunC.block ?_
    refine RunC.loop2 (γ := Nat) (keep := [(0, _), (1, _), (12, _)]) (hkeep := []) (fun i => i ≤ a.cross.length ∧ ∀ j, j < i → a.cross[j]? = b.cross[j]?) (fun i => a.cross.length - i) (fun i => [(13, iv i)]) (fun i => []) 0 ⟨by omega, fun j h => by omega⟩ (Fr.Sub.cons rfl (Fr.Sub.nil _)) (Fr.Sub.cons rfl (Fr.Sub.cons rfl (Fr.Sub.cons rfl (Fr.Sub.nil _)))) (HSub.nil _) ?_
    rintro i ⟨hi, he⟩
    refine RunC.seq ?_
    refine RunC.region ?_
    refine RunL.still rfl rfl rfl (Still.lss rfl rfl rfl) ?_
    refine RunL.nil ?_
    refine Ends.then ?_
    refine RunC.seq ?_
    refine RunC.cond rfl (fun h14 => ?_) (fun h14 => ?_)
    · have h14 := of_decide_eq_true h14
      obtain ⟨x, hx⟩ := get_of_lt (l := a.cross) (i := i) (by omega)
      obtain ⟨y, hy⟩ := get_of_lt (l := b.cross) (i := i) (by omega)
      refine RunC.skip ?_
      refine Ends.then ?_
      refine RunC.seq ?_
      refine RunC.block ?_
      refine RunC.seq ?_
      refine RunC.region ?_
      refine RunL.still rfl rfl rfl (Still.move rfl rfl) ?_
      refine RunL.still rfl rfl rfl (Still.assign rfl rfl) ?_
      refine RunL.nil ?_
      refine Ends.then ?_
      refine RunC.seq ?_
      refine RunC.draw 8 (.still 0 (.still 1 (.still 2 (.still 3 (.still 4 (.still 5 (.still 6 (.still 7 .done)))))))) (by kernel_rfl) (by kernel_rfl) ?_
      refine RunG.still rfl rfl rfl rfl (Still.move rfl rfl) ?_
      refine RunG.still rfl rfl rfl rfl (Still.move rfl rfl) ?_
      refine RunG.still rfl rfl rfl rfl (Still.indexSliceN rfl rfl rfl Tryz.underlying22 Tryz.sizeOf62 (hda.base (by omega)) (by omega)) ?_
      refine RunG.still rfl rfl rfl rfl (Still.loads rfl rfl Tryz.isAgg62 Tryz.sizeOf62 (vs := [iv x.a0, iv x.a1, iv x.a2, iv x.a3, iv x.s]) rfl (fun _ hs => Cells.base0 (hda.cross hx) hs)) ?_
      refine RunG.still rfl rfl rfl rfl (Still.move rfl rfl) ?_
      refine RunG.still rfl rfl rfl rfl (Still.move rfl rfl) ?_
      refine RunG.still rfl rfl rfl rfl (Still.indexSliceN rfl rfl rfl Tryz.underlying22 Tryz.sizeOf62 (hdb.base (by omega)) (by omega)) ?_
      refine RunG.still rfl rfl rfl rfl (Still.loads rfl rfl Tryz.isAgg62 Tryz.sizeOf62 (vs := [iv y.a0, iv y.a1, iv y.a2, iv y.a3, iv y.s]) rfl (fun _ hs => Cells.base0 (hdb.cross hy) hs)) ?_
      refine RunG.done ?_
      show RunL _ _ _ [_] _ _
      refine RunL.still rfl rfl rfl (Still.neqAgg rfl rfl rfl Tryz.eqGuardType62 (fun _ => eq69 _ _ _ _ _ _ _ _ _ _ _)) ?_
      refine RunL.nil ?_
      refine Ends.then ?_
      refine RunC.cond rfl (fun h24 => ?_) (fun h24 => ?_)
      · skip
        refine RunC.seq ?_
        refine RunC.region ?_
        refine RunL.still rfl rfl rfl (Still.assign rfl rfl) ?_
        refine RunL.nil ?_
        refine Ends.then ?_
        refine RunC.ret ?_
        refine Ends.block_ret ?_
        refine Ends.then_ret ?_
        refine Ends.then_ret ?_
        refine Ends.block_ret ?_
        refine Ends.then_ret ?_
        refine Ends.leave (.inl rfl) (fun _ _ ok => results1 Tryz.results45 (Holds.tmp rfl) ok) (fun w2 hs => ?_)
        exact Ret.intro () trivial (congrArg Value.bool (decide_eq_false (fun e => by rw [e, hy] at hx; cases hx; simp at h24)).symm) (HSub.nil _) hs
      · skip
        refine RunC.skip ?_
        refine Ends.block ?_
        refine Ends.then ?_
        refine RunC.region ?_
        refine RunL.still rfl rfl rfl (Still.add rfl rfl rfl (fits64 (by omega) (by omega))) ?_
        refine RunL.still rfl rfl rfl (Still.move rfl rfl) ?_
        refine RunL.nil ?_
        have hxy : x = y := by obtain ⟨x0, x1, x2, x3, xs⟩ := x; obtain ⟨y0, y1, y2, y3, ys⟩ := y; simp at h24; simp [h24]
        refine Ends.again (i + 1) ?_ ?_ (Fr.Sub.app ?_ ?_) ?_
        · exact ⟨by omega, fun j h => by rcases Nat.lt_or_ge j i with h2 | h2; exact he j h2; obtain rfl : j = i := (by omega); rw [hx, hy, hxy]⟩
        · show _ < _; omega
        · exact Fr.Sub.cons rfl (Fr.Sub.nil _)
        · exact Fr.Sub.cons rfl (Fr.Sub.cons rfl (Fr.Sub.cons rfl (Fr.Sub.nil _)))
        · exact HSub.nil _
    · have h14 := of_decide_eq_false h14
      refine RunC.exit ?_
      refine Ends.then_exit ?_
      refine Ends.then_exit ?_
      refine Ends.block_exit ?_
      refine Ends.then ?_
      refine RunC.seq ?_
      refine RunC.region ?_
      refine RunL.still rfl rfl rfl (Still.assign rfl rfl) ?_
      refine RunL.nil ?_
      refine Ends.then ?_
      refine RunC.ret ?_
      refine Ends.leave (.inl rfl) (fun _ _ ok => results1 Tryz.results45 (Holds.tmp rfl) ok) (fun w3 hs => ?_)
      exact Ret.intro () trivial (congrArg Value.bool (decide_eq_true (List.ext_getElem? fun j => (by rcases Nat.lt_or_ge j a.cross.length with h | h; exact he j (by omega); rw [List.getElem?_eq_none (by omega), List.getElem?_eq_none (by omega)]))).symm) (HSub.nil _) hs

theorem dg_Same (ba bb : Option Addr) (A B : Addr) (ca cb : Nat) (a b : Dia) (w : World) (hda : DiaAt w ba A a) (hdb : DiaAt w bb B b) : Gives Tryz.prog 14 #[diaV ba ca a, diaV bb cb b] w Nil (fun _ : Unit => True) (fun _ => .bool (decide (a = b))) (fun _ => []) := by
  refine fn_of_run (S := Nil) (args := [diaV ba ca a, diaV bb cb b]) (n := 17) (L := []) Tryz.func14 rfl Tryz.ntmps14 (Nat.le_of_ble_eq_true rfl) (Sym.nil _ _) ?_
  change RunC _ _ _ [(0, _), (1, _)] _
  refine RunC.seq ?_
  refine RunC.region ?_
  refine RunL.grows rfl rfl rfl (Grows.box rfl rfl) (fun b2 _ => ?_)
  refine RunL.grows rfl rfl rfl (Grows.box rfl rfl) (fun b3 _ => ?_)
  refine RunL.still rfl rfl rfl (Still.assign rfl rfl) ?_
  refine RunL.nil ?_
  refine Ends.then ?_
  refine RunC.seq ?_
  refine RunC.region ?_
  refine RunL.still rfl rfl rfl (Still.fieldAddrL (off := 0) (off' := 1) rfl rfl Tryz.underlying24 rfl Tryz.sizeOf3 rfl) ?_
  refine RunL.still rfl rfl rfl (Still.load rfl rfl Tryz.isAgg3 (fun _ hs => cell_nth (hs.at (i := 1) rfl) rfl)) ?_
  refine RunL.still rfl rfl rfl (Still.fieldAddrL (off := 0) (off' := 1) rfl rfl Tryz.underlying24 rfl Tryz.sizeOf3 rfl) ?_
  refine RunL.still rfl rfl rfl (Still.load rfl rfl Tryz.isAgg3 (fun _ hs => cell_nth (hs.at (i := 0) rfl) rfl)) ?_
  refine RunL.still rfl rfl rfl (Still.eql rfl rfl rfl) ?_
  refine RunL.still rfl rfl rfl (Still.move rfl rfl) ?_
  refine RunL.split (t := 10) rfl (fun h10 => ?_) (fun h10 => ?_)
  · have h10 := of_decide_eq_true h10
    refine RunL.still rfl rfl rfl (Still.fieldAddrL (off := 0) (off' := 0) rfl rfl Tryz.underlying24 rfl Tryz.sizeOf22 rfl) ?_
    refine RunL.still rfl rfl rfl (Still.load rfl rfl Tryz.isAgg22 (fun _ hs => cell_nth (hs.at (i := 1) rfl) rfl)) ?_
    refine RunL.still rfl rfl rfl (Still.fieldAddrL (off := 0) (off' := 0) rfl rfl Tryz.underlying24 rfl Tryz.sizeOf22 rfl) ?_
    refine RunL.still rfl rfl rfl (Still.load rfl rfl Tryz.isAgg22 (fun _ hs => cell_nth (hs.at (i := 0) rfl) rfl)) ?_
    refine RunL.grows rfl rfl rfl (Grows.call (vs := #[_, _]) rfl rfl Tryz.call45 (fun w hs => lib_Equal ba bb A B ca cb a b w (hda.sym hs) (hdb.sym hs))) (fun _ _ => ?_)
    refine RunL.still rfl rfl rfl (Still.pickT rfl rfl rfl) ?_
    refine RunL.still rfl rfl rfl (Still.assign rfl rfl) ?_
    refine RunL.nil ?_
    refine Ends.then ?_
    refine RunC.ret ?_
    refine Ends.leave (.inl rfl) (fun _ _ ok => results1 Tryz.results14 (Holds.tmp rfl) ok) (fun w1 hs => ?_)
    exact Ret.intro () trivial (congrArg Value.bool (by obtain ⟨ac, al⟩ := a; obtain ⟨bc, bl⟩ := b; exact decide_eq_decide.2 ⟨fun e => by simp at h10 e ⊢; exact ⟨e, h10⟩, fun e => by simp at e; exact e.1⟩)) (HSub.nil _) hs
  · have h10 := of_decide_eq_false h10
    refine RunL.off rfl rfl rfl ?_
    refine RunL.off rfl rfl rfl ?_
    refine RunL.off rfl rfl rfl ?_
    refine RunL.off rfl rfl rfl ?_
    refine RunL.off rfl rfl rfl ?_
    refine RunL.still rfl rfl rfl (Still.pickF rfl rfl rfl) ?_
    refine RunL.still rfl rfl rfl (Still.assign rfl rfl) ?_
    refine RunL.nil ?_
    refine Ends.then ?_
    refine RunC.ret ?_
    refine Ends.leave (.inl rfl) (fun _ _ ok => results1 Tryz.results14 (Holds.tmp rfl) ok) (fun w2 hs => ?_)
    exact Ret.intro () trivial (congrArg Value.bool (decide_eq_false (fun e => h10 (by rw [e]))).symm) (HSub.nil _) hs

end Go.Proofs
/- What the statements of chapter 22 share: same, hopf, sane, large. -/
namespace Go.Proofs
open Go Go.V
set_option maxRecDepth 20000
theorem lw_same (v u : Value) (xs ys : List Int) (w : World) (hv : Shape v xs.length) (hu : Shape u ys.length) (hc : Cells w (vaddr v) (ints xs)) (hd : Cells w (vaddr u) (ints ys)) (hl : xs.length ≤ 1000) : Gives Tryz.prog 30 #[v, u] w Nil (fun _ : Unit => True) (fun _ => .bool (decide (xs = ys))) (fun _ => []) := by
  refine fn_of_run (S := Nil) (args := [v, u]) (n := 26) (L := []) Tryz.func30 rfl Tryz.ntmps30 (Nat.le_of_ble_eq_true rfl) (Sym.nil _ _) ?_
  change RunC _ _ _ [(0, _), (1, _)] _
  refine RunC.seq ?_
  refine RunC.region ?_
  refine RunL.still rfl rfl rfl (Still.assign rfl rfl) ?_
  refine RunL.nil ?_
  refine Ends.then ?_
  refine RunC.seq ?_
  refine RunC.seq ?_
  refine RunC.region ?_
  refine RunL.still rfl rfl rfl (Still.move rfl rfl) ?_
  refine RunL.still rfl rfl rfl (Still.lenV rfl rfl Tryz.underlying36 (hv)) ?_
  refine RunL.still rfl rfl rfl (Still.move rfl rfl) ?_
  refine RunL.still rfl rfl rfl (Still.lenV rfl rfl Tryz.underlying36 (hu)) ?_
  refine RunL.still rfl rfl rfl (Still.neq rfl rfl rfl) ?_
  refine RunL.nil ?_
  refine Ends.then ?_
  refine RunC.cond rfl (fun h10 => ?_) (fun h10 => ?_)
  · have h10 := of_decide_eq_true h10
    refine RunC.seq ?_
    refine RunC.region ?_
    refine RunL.still rfl rfl rfl (Still.assign rfl rfl) ?_
    refine RunL.nil ?_
    refine Ends.then ?_
    refine RunC.ret ?_
    refine Ends.then_ret ?_
    refine Ends.leave (.inl rfl) (fun _ _ ok => results1 Tryz.results30 (Holds.tmp rfl) ok) (fun w1 hs => ?_)
    exact Ret.intro () trivial (congrArg Value.bool (decide_eq_false (fun e => h10 (by rw [e]))).symm) (HSub.nil _) hs
  · have h10 := of_decide_eq_false h10
    refine RunC.skip ?_
    refine Ends.then ?_
    refine RunC.seq ?_
    refine RunC.seq ?_
    refine RunC.region ?_
    refine RunL.still rfl rfl rfl (Still.assign rfl rfl) ?_
    refine RunL.nil ?_
    refine Ends.then ?_
    refine RunC.block ?_
    refine RunC.loop2 (γ := Nat) (keep := [(0, _), (1, _)]) (hkeep := []) (fun i => i ≤ xs.length ∧ ∀ j, j < i → xs[j]? = ys[j]?) (fun i => xs.length - i) (fun i => [(5, iv i)]) (fun i => []) 0 ⟨by omega, fun j h => by omega⟩ (Fr.Sub.cons rfl (Fr.Sub.nil _)) (Fr.Sub.cons rfl (Fr.Sub.cons rfl (Fr.Sub.nil _))) (HSub.nil _) ?_
    rintro i ⟨hi, he⟩
    refine RunC.seq ?_
    refine RunC.seq ?_
    refine RunC.region ?_
    refine RunL.still rfl rfl rfl (Still.move rfl rfl) ?_
    refine RunL.still rfl rfl rfl (Still.move rfl rfl) ?_
    refine RunL.still rfl rfl rfl (Still.lenV rfl rfl Tryz.underlying36 (hv)) ?_
    refine RunL.still rfl rfl rfl (Still.lss rfl rfl rfl) ?_
    refine RunL.nil ?_
    refine Ends.then ?_
    refine RunC.cond rfl (fun h14 => ?_) (fun h14 => ?_)
    · have h14 := of_decide_eq_true h14
      obtain ⟨x, hx⟩ := get_of_lt (l := xs) (i := i) (by omega)
      obtain ⟨y, hy⟩ := get_of_lt (l := ys) (i := i) (by omega)
      refine RunC.skip ?_
      refine Ends.then ?_
      refine RunC.seq ?_
      refine RunC.block ?_
      refine RunC.seq ?_
      refine RunC.draw 8 (.still 0 (.still 1 (.still 2 (.still 3 (.still 4 (.still 5 (.still 6 (.still 7 .done)))))))) (by kernel_rfl) (by kernel_rfl) ?_
      refine RunG.still rfl rfl rfl rfl (Still.move rfl rfl) ?_
      refine RunG.still rfl rfl rfl rfl (Still.move rfl rfl) ?_
      refine RunG.still rfl rfl rfl rfl (Still.indexV _ rfl rfl rfl Tryz.underlying36 Tryz.sizeOf3 (hv) (rfl) (by omega)) ?_
      refine RunG.still rfl rfl rfl rfl (Still.load rfl rfl Tryz.isAgg3 (fun _ hs => cells_at (Cells.base0 hc hs) (ints_get hx))) ?_
      refine RunG.still rfl rfl rfl rfl (Still.move rfl rfl) ?_
      refine RunG.still rfl rfl rfl rfl (Still.move rfl rfl) ?_
      refine RunG.still rfl rfl rfl rfl (Still.indexV _ rfl rfl rfl Tryz.underlying36 Tryz.sizeOf3 (hu) (rfl) (by omega)) ?_
      refine RunG.still rfl rfl rfl rfl (Still.load rfl rfl Tryz.isAgg3 (fun _ hs => cells_at (Cells.base0 hd hs) (ints_get hy))) ?_
      refine RunG.done ?_
      show RunL _ _ _ [_] _ _
      refine RunL.still rfl rfl rfl (Still.neq rfl rfl rfl) ?_
      refine RunL.nil ?_
      refine Ends.then ?_
      refine RunC.cond rfl (fun h25 => ?_) (fun h25 => ?_)
      · have h25 := of_decide_eq_true h25
        refine RunC.seq ?_
        refine RunC.region ?_
        refine RunL.still rfl rfl rfl (Still.assign rfl rfl) ?_
        refine RunL.nil ?_
        refine Ends.then ?_
        refine RunC.ret ?_
        refine Ends.block_ret ?_
        refine Ends.then_ret ?_
        refine Ends.then_ret ?_
        refine Ends.block_ret ?_
        refine Ends.then_ret ?_
        refine Ends.leave (.inl rfl) (fun _ _ ok => results1 Tryz.results30 (Holds.tmp rfl) ok) (fun w2 hs => ?_)
        exact Ret.intro () trivial (congrArg Value.bool (decide_eq_false (fun e => h25 (by rw [e] at hx; rw [hx] at hy; exact Option.some.inj hy))).symm) (HSub.nil _) hs
      · have h25 := of_decide_eq_false h25
        refine RunC.skip ?_
        refine Ends.block ?_
        refine Ends.then ?_
        refine RunC.region ?_
        refine RunL.still rfl rfl rfl (Still.move rfl rfl) ?_
        refine RunL.still rfl rfl rfl (Still.add rfl rfl rfl (fits64 (by omega) (by omega))) ?_
        refine RunL.still rfl rfl rfl (Still.assign rfl rfl) ?_
        refine RunL.nil ?_
        refine Ends.again (i + 1) ?_ ?_ (Fr.Sub.app ?_ ?_) ?_
        · exact ⟨by omega, fun j h => by rcases Nat.lt_or_ge j i with h2 | h2; exact he j h2; obtain rfl : j = i := (by omega); rw [hx, hy]; congr 1; omega⟩
        · show _ < _; omega
        · exact Fr.Sub.cons rfl (Fr.Sub.nil _)
        · exact Fr.Sub.cons rfl (Fr.Sub.cons rfl (Fr.Sub.nil _))
        · exact HSub.nil _
    · have h14 := of_decide_eq_false h14
      refine RunC.exit ?_
      refine Ends.then_exit ?_
      refine Ends.then_exit ?_
      refine Ends.block_exit ?_
      refine Ends.then ?_
      refine RunC.seq ?_
      refine RunC.region ?_
      refine RunL.still rfl rfl rfl (Still.assign rfl rfl) ?_
      refine RunL.nil ?_
      refine Ends.then ?_
      refine RunC.ret ?_
      refine Ends.leave (.inl rfl) (fun _ _ ok => results1 Tryz.results30 (Holds.tmp rfl) ok) (fun w3 hs => ?_)
      exact Ret.intro () trivial (congrArg Value.bool (decide_eq_true (List.ext_getElem? fun j => by rcases Nat.lt_or_ge j xs.length with h | h; exact he j (by omega); rw [List.getElem?_eq_none (by omega), List.getElem?_eq_none (by omega)])).symm) (HSub.nil _) hs

theorem lw_hopf (w : World) : Gives Tryz.prog 44 #[] w Nil (fun _ : Nat => True) (fun b => diaV (some ⟨b, 0, none⟩) 2 hopfD) (fun b => [ownD (some ⟨b, 0, none⟩, 2) hopfD]) := by
  refine fn_of_run (S := Nil) (args := []) (n := 7) (L := []) Tryz.func44 rfl Tryz.ntmps44 (Nat.le_of_ble_eq_true rfl) (Sym.nil _ _) ?_
  change RunC _ _ _ [] _
  refine RunC.seq ?_
  refine RunC.region ?_
  refine RunL.grows rfl rfl rfl (Grows.alloc rfl Tryz.zeroValue24) (fun b0 _ => ?_)
  refine RunL.nil ?_
  refine Ends.then ?_
  refine RunC.seq ?_
  refine RunC.region ?_
  refine RunL.still rfl rfl rfl (Still.build_1_1_1_1 (fun x0_0 x1_0 x2_0 x3_0 => .agg #[x0_0, x1_0, x2_0, x3_0]) rfl rfl rfl rfl rfl (fun _ => by kernel_rfl)) ?_
  refine RunL.still rfl rfl rfl (Still.build_4_1 (fun x0_0 x0_1 x0_2 x0_3 x1_0 => .agg #[x0_0, x0_1, x0_2, x0_3, x1_0]) rfl rfl rfl (fun _ => by kernel_rfl)) ?_
  refine RunL.still rfl rfl rfl (Still.build_1_1_1_1 (fun x0_0 x1_0 x2_0 x3_0 => .agg #[x0_0, x1_0, x2_0, x3_0]) rfl rfl rfl rfl rfl (fun _ => by kernel_rfl)) ?_
  refine RunL.still rfl rfl rfl (Still.build_4_1 (fun x0_0 x0_1 x0_2 x0_3 x1_0 => .agg #[x0_0, x0_1, x0_2, x0_3, x1_0]) rfl rfl rfl (fun _ => by kernel_rfl)) ?_
  refine RunL.grows rfl rfl rfl (Grows.buildSlice (vs := #[(0, _), (1, _)]) (cells := #[iv 0, iv 3, iv 1, iv 2, iv 1, iv 3, iv 0, iv 2, iv 1, iv 1]) rfl rfl Tryz.underlying22 Tryz.sizeOf62 Tryz.zeroValue62 (by decide) (by kernel_rfl)) (fun b5 _ => ?_)
  refine RunL.conv (fun _ hs => Sym.obj_own (k := 5) (n := 2) hs rfl (by omega)) ?_
  refine RunL.still rfl rfl rfl (Still.build_1 (fun x0_0 => .agg #[x0_0, .int .i64 0]) rfl rfl (fun _ => by kernel_rfl)) ?_
  refine RunL.does0 rfl rfl (Does.store rfl rfl rfl (i := 1) rfl Tryz.sizeOf24 rfl (rfl) rfl) (fun _ _ => ?_)
  refine RunL.nil ?_
  refine Ends.then ?_
  refine RunC.ret ?_
  refine Ends.leave (.inl rfl) (fun _ _ ok => results1 Tryz.results44 (Holds.cell rfl (fun _ hs => load_cells (vs := [_, _]) Tryz.isAgg24 Tryz.sizeOf24 rfl (cells_nth (hs.at (i := 1) rfl) ⟨rfl, ⟨rfl, trivial⟩⟩))) ok) (fun w1 hs => ?_)
  exact Ret.intro b5 trivial rfl (HSub.pick 0 rfl (HSub.nil _)) hs

theorem lw_large (base : Option Addr) (cap : Nat) (d : Dia) (w : World) : Gives Tryz.prog 6 #[diaV base cap d] w Nil (fun _ : Unit => True) (fun _ => .bool (decide (20 < d.cross.length ∧ d.cross.length ≤ 200))) (fun _ => []) := by
  refine fn_of_run (S := Nil) (args := [diaV base cap d]) (n := 13) (L := []) Tryz.func6 rfl Tryz.ntmps6 (Nat.le_of_ble_eq_true rfl) (Sym.nil _ _) ?_
  change RunC _ _ _ [(0, _)] _
  refine RunC.seq ?_
  refine RunC.region ?_
  refine RunL.grows rfl rfl rfl (Grows.box rfl rfl) (fun b1 _ => ?_)
  refine RunL.still rfl rfl rfl (Still.assign rfl rfl) ?_
  refine RunL.nil ?_
  refine Ends.then ?_
  refine RunC.seq ?_
  refine RunC.region ?_
  refine RunL.still rfl rfl rfl (Still.fieldAddrL (off := 0) (off' := 0) rfl rfl Tryz.underlying24 rfl Tryz.sizeOf22 rfl) ?_
  refine RunL.still rfl rfl rfl (Still.load rfl rfl Tryz.isAgg22 (fun _ hs => cell_nth (hs.at (i := 0) rfl) rfl)) ?_
  refine RunL.still rfl rfl rfl (Still.lenSlice rfl rfl Tryz.underlying22) ?_
  refine RunL.still rfl rfl rfl (Still.gtr rfl rfl rfl) ?_
  refine RunL.still rfl rfl rfl (Still.move rfl rfl) ?_
  refine RunL.split (t := 7) rfl (fun h7 => ?_) (fun h7 => ?_)
  · have h7 := of_decide_eq_true h7
    refine RunL.still rfl rfl rfl (Still.fieldAddrL (off := 0) (off' := 0) rfl rfl Tryz.underlying24 rfl Tryz.sizeOf22 rfl) ?_
    refine RunL.still rfl rfl rfl (Still.load rfl rfl Tryz.isAgg22 (fun _ hs => cell_nth (hs.at (i := 0) rfl) rfl)) ?_
    refine RunL.still rfl rfl rfl (Still.lenSlice rfl rfl Tryz.underlying22) ?_
    refine RunL.still rfl rfl rfl (Still.leq rfl rfl rfl) ?_
    refine RunL.still rfl rfl rfl (Still.pickT rfl rfl rfl) ?_
    refine RunL.still rfl rfl rfl (Still.assign rfl rfl) ?_
    refine RunL.nil ?_
    refine Ends.then ?_
    refine RunC.ret ?_
    refine Ends.leave (.inl rfl) (fun _ _ ok => results1 Tryz.results6 (Holds.tmp rfl) ok) (fun w1 hs => ?_)
    exact Ret.intro () trivial (by first | exact congrArg Value.bool (decide_eq_true (by omega)).symm | exact congrArg Value.bool (decide_eq_false (by omega)).symm | exact congrArg Value.bool (decide_eq_decide.2 (by omega))) (HSub.nil _) hs
  · have h7 := of_decide_eq_false h7
    refine RunL.off rfl rfl rfl ?_
    refine RunL.off rfl rfl rfl ?_
    refine RunL.off rfl rfl rfl ?_
    refine RunL.off rfl rfl rfl ?_
    refine RunL.still rfl rfl rfl (Still.pickF rfl rfl rfl) ?_
    refine RunL.still rfl rfl rfl (Still.assign rfl rfl) ?_
    refine RunL.nil ?_
    refine Ends.then ?_
    refine RunC.ret ?_
    refine Ends.leave (.inl rfl) (fun _ _ ok => results1 Tryz.results6 (Holds.tmp rfl) ok) (fun w2 hs => ?_)
    exact Ret.intro () trivial (by first | exact congrArg Value.bool (decide_eq_true (by omega)).symm | exact congrArg Value.bool (decide_eq_false (by omega)).symm | exact congrArg Value.bool (decide_eq_decide.2 (by omega))) (HSub.nil _) hs

theorem lw_sane (w : World) : Gives Tryz.prog 13 #[] w Nil (fun _ : Unit => True) (fun _ => .bool true) (fun _ => []) := by
  refine fn_of_run (S := Nil) (args := []) (n := 105) (L := []) Tryz.func13 rfl Tryz.ntmps13 (Nat.le_of_ble_eq_true rfl) (Sym.nil _ _) ?_
  change RunC _ _ _ [] _
  refine RunC.seq ?_
  refine RunC.region ?_
  refine RunL.still rfl rfl rfl (Still.assign rfl rfl) ?_
  refine RunL.nil ?_
  refine Ends.then ?_
  refine RunC.seq ?_
  refine RunC.region ?_
  refine RunL.grows rfl rfl rfl (Grows.call (vs := #[]) rfl rfl Tryz.call44 (fun w hs => lw_hopf w)) (fun g1 _ => ?_)
  refine RunL.grows rfl rfl rfl (Grows.call (vs := #[_]) rfl rfl Tryz.call21 (fun w hs => dg_Components_ok _ _ _ hopfD w (DiaAt.of_ownD hopf_sound (hs.at (i := 0) rfl)) hopf_ok)) (fun ov hov => ?_)
  refine RunL.still rfl rfl rfl (Still.move rfl rfl) ?_
  refine RunL.still rfl rfl rfl (Still.extractN rfl rfl rfl) ?_
  refine RunL.still rfl rfl rfl (Still.extractN rfl rfl rfl) ?_
  refine RunL.still rfl rfl rfl (Still.extractN rfl rfl rfl) ?_
  refine RunL.still rfl rfl rfl (Still.assign rfl rfl) ?_
  refine RunL.still rfl rfl rfl (Still.assign rfl rfl) ?_
  refine RunL.still rfl rfl rfl (Still.assign rfl rfl) ?_
  refine RunL.nil ?_
  refine Ends.then ?_
  refine RunC.seq ?_
  refine RunC.region ?_
  refine RunL.grows rfl rfl rfl (Grows.call (vs := #[]) rfl rfl Tryz.call44 (fun w hs => lw_hopf w)) (fun g2 _ => ?_)
  refine RunL.grows rfl rfl rfl (Grows.call (vs := #[_]) rfl rfl Tryz.call23 (fun w hs => dg_Writhe_ok _ _ _ hopfD w (DiaAt.of_ownD hopf_sound (hs.at (i := 0) rfl)) hopf_ok)) (fun _ _ => ?_)
  refine RunL.still rfl rfl rfl (Still.move rfl rfl) ?_
  refine RunL.still rfl rfl rfl (Still.extractN rfl rfl rfl) ?_
  refine RunL.still rfl rfl rfl (Still.extractN rfl rfl rfl) ?_
  refine RunL.still rfl rfl rfl (Still.assign rfl rfl) ?_
  refine RunL.still rfl rfl rfl (Still.assign rfl rfl) ?_
  refine RunL.nil ?_
  refine Ends.then ?_
  refine RunC.seq ?_
  refine RunC.region ?_
  refine RunL.grows rfl rfl rfl (Grows.call (vs := #[]) rfl rfl Tryz.call44 (fun w hs => lw_hopf w)) (fun g3 _ => ?_)
  refine RunL.grows rfl rfl rfl (Grows.call (vs := #[_, _, _]) rfl rfl Tryz.call24 (fun w hs => dg_Linking_ok _ _ _ hopfD 0 1 w (DiaAt.of_ownD hopf_sound (hs.at (i := 0) rfl)) hopf_ok)) (fun _ _ => ?_)
  refine RunL.still rfl rfl rfl (Still.move rfl rfl) ?_
  refine RunL.still rfl rfl rfl (Still.extractN rfl rfl rfl) ?_
  refine RunL.still rfl rfl rfl (Still.extractN rfl rfl rfl) ?_
  refine RunL.still rfl rfl rfl (Still.assign rfl rfl) ?_
  refine RunL.still rfl rfl rfl (Still.assign rfl rfl) ?_
  refine RunL.nil ?_
  refine Ends.then ?_
  refine RunC.seq ?_
  refine RunC.region ?_
  refine RunL.grows rfl rfl rfl (Grows.call (vs := #[]) rfl rfl Tryz.call44 (fun w hs => lw_hopf w)) (fun g4 _ => ?_)
  refine RunL.grows rfl rfl rfl (Grows.call (vs := #[_]) rfl rfl Tryz.call25 (fun w hs => dg_Mirror_ok _ _ _ hopfD w (DiaAt.of_ownD hopf_sound (hs.at (i := 0) rfl)) hopf_ok)) (fun mq hmq => ?_)
  rw [mir_hopf]
  refine RunL.still rfl rfl rfl (Still.move rfl rfl) ?_
  refine RunL.still rfl rfl rfl (Still.extractN rfl rfl rfl) ?_
  refine RunL.still rfl rfl rfl (Still.extractN rfl rfl rfl) ?_
  refine RunL.grows rfl rfl rfl (Grows.alloc rfl Tryz.zeroValue24) (fun b8 _ => ?_)
  refine RunL.does0 rfl rfl (Does.store rfl rfl rfl (i := 0) rfl Tryz.sizeOf24 rfl (rfl) rfl) (fun _ _ => ?_)
  refine RunL.still rfl rfl rfl (Still.assign rfl rfl) ?_
  refine RunL.nil ?_
  refine Ends.then ?_
  refine RunC.seq ?_
  refine RunC.region ?_
  refine RunL.still rfl rfl rfl (Still.loads rfl rfl Tryz.isAgg24 Tryz.sizeOf24 (vs := [_, _]) rfl (fun _ hs => cells_nth (hs.at (i := 0) rfl) ⟨rfl, ⟨rfl, trivial⟩⟩)) ?_
  refine RunL.grows rfl rfl rfl (Grows.call (vs := #[_]) rfl rfl Tryz.call7 (fun w hs => dg_Text_ok _ _ _ mirH w (DiaAt.of_ownD mirH_sound (hs.at (i := 1) rfl)) mirH_ok mirH_small (by decide))) (fun _ _ => ?_)
  refine RunL.still rfl rfl rfl (Still.move rfl rfl) ?_
  refine RunL.still rfl rfl rfl (Still.extractN rfl rfl rfl) ?_
  refine RunL.still rfl rfl rfl (Still.extractN rfl rfl rfl) ?_
  refine RunL.still rfl rfl rfl (Still.assign rfl rfl) ?_
  refine RunL.still rfl rfl rfl (Still.assign rfl rfl) ?_
  refine RunL.nil ?_
  refine Ends.then ?_
  refine RunC.seq ?_
  refine RunC.region ?_
  refine RunL.grows rfl rfl rfl (Grows.call (vs := #[]) rfl rfl Tryz.call44 (fun w hs => lw_hopf w)) (fun g5 _ => ?_)
  refine RunL.grows rfl rfl rfl (Grows.call (vs := #[_]) rfl rfl Tryz.call22 (fun w hs => dg_Regions_ok _ _ _ hopfD w (DiaAt.of_ownD hopf_sound (hs.at (i := 0) rfl)) hopf_ok)) (fun ⟨rv, rs⟩ hrs => ?_)
  have hrl : rs.length = 4 := by have h1 : rs.map Prod.snd = regsOf hopfD := hrs.1; rw [← hopf_regs, ← h1, List.length_map]
  refine RunL.still rfl rfl rfl (Still.move rfl rfl) ?_
  refine RunL.still rfl rfl rfl (Still.extractN rfl rfl rfl) ?_
  refine RunL.still rfl rfl rfl (Still.extractN rfl rfl rfl) ?_
  refine RunL.still rfl rfl rfl (Still.assign rfl rfl) ?_
  refine RunL.still rfl rfl rfl (Still.assign rfl rfl) ?_
  refine RunL.nil ?_
  refine Ends.then ?_
  refine RunC.seq ?_
  refine RunC.region ?_
  refine RunL.grows rfl rfl rfl (Grows.call (vs := #[]) rfl rfl Tryz.call44 (fun w hs => lw_hopf w)) (fun g6 _ => ?_)
  refine RunL.grows rfl rfl rfl (Grows.alloc rfl Tryz.zeroValue24) (fun b14 _ => ?_)
  refine RunL.does0 rfl rfl (Does.store rfl rfl rfl (i := 0) rfl Tryz.sizeOf24 rfl (rfl) rfl) (fun _ _ => ?_)
  refine RunL.nil ?_
  refine Ends.then ?_
  refine RunC.seq ?_
  refine RunC.region ?_
  refine RunL.still rfl rfl rfl (Still.fieldAddrL (off := 0) (off' := 0) rfl rfl Tryz.underlying24 rfl Tryz.sizeOf22 rfl) ?_
  refine RunL.still rfl rfl rfl (Still.load rfl rfl Tryz.isAgg22 (fun _ hs => cell_nth (hs.at (i := 0) rfl) rfl)) ?_
  refine RunL.still rfl rfl rfl (Still.build_1_1_1_1 (fun x0_0 x1_0 x2_0 x3_0 => .agg #[x0_0, x1_0, x2_0, x3_0]) rfl rfl rfl rfl rfl (fun _ => by kernel_rfl)) ?_
  refine RunL.still rfl rfl rfl (Still.build_4_1 (fun x0_0 x0_1 x0_2 x0_3 x1_0 => .agg #[x0_0, x0_1, x0_2, x0_3, x1_0]) rfl rfl rfl (fun _ => by kernel_rfl)) ?_
  refine RunL.still rfl rfl rfl (Still.indexOwnI (m := 1) rfl rfl rfl Tryz.underlying22 Tryz.sizeOf62 (fun _ hs => hs.own (i := 1) rfl) (rfl) (by decide)) ?_
  refine RunL.does0 rfl rfl (Does.storeOwn (xs' := (flatD.cross.flatMap encCr)) rfl rfl rfl rfl (i := 1) rfl Tryz.sizeOf62 rfl (by decide) rfl (by decide) (fun i => by rw [show flatD.cross = hopfD.cross.set 1 ⟨3, 1, 2, 0, -1⟩ from rfl]; exact flat_set encCr_len (by decide) _ (by decide) i)) (fun _ _ => ?_)
  refine RunL.nil ?_
  refine Ends.then ?_
  refine RunC.seq ?_
  refine RunC.region ?_
  refine RunL.still rfl rfl rfl (Still.move rfl rfl) ?_
  refine RunL.still rfl rfl rfl (Still.eql rfl rfl rfl) ?_
  refine RunL.again (t := 53) (u := .bool true) rfl (rfl) ?_
  refine RunL.still rfl rfl rfl (Still.move rfl rfl) ?_
  refine RunL.still rfl rfl rfl (Still.move rfl rfl) ?_
  refine RunL.still rfl rfl rfl (Still.eql rfl rfl rfl) ?_
  refine RunL.again (t := 56) (u := .bool true) rfl (rfl) ?_
  refine RunL.still rfl rfl rfl (Still.pickT rfl rfl rfl) ?_
  refine RunL.still rfl rfl rfl (Still.move rfl rfl) ?_
  refine RunL.still rfl rfl rfl (Still.move rfl rfl) ?_
  refine RunL.still rfl rfl rfl (Still.eql rfl rfl rfl) ?_
  refine RunL.again (t := 60) (u := .bool true) rfl (congrArg Value.bool (decide_eq_true hopf_linkE)) ?_
  refine RunL.still rfl rfl rfl (Still.pickT rfl rfl rfl) ?_
  refine RunL.still rfl rfl rfl (Still.move rfl rfl) ?_
  refine RunL.still rfl rfl rfl (Still.move rfl rfl) ?_
  refine RunL.still rfl rfl rfl (Still.eql rfl rfl rfl) ?_
  refine RunL.again (t := 64) (u := .bool true) rfl (rfl) ?_
  refine RunL.still rfl rfl rfl (Still.pickT rfl rfl rfl) ?_
  refine RunL.still rfl rfl rfl (Still.move rfl rfl) ?_
  refine RunL.still rfl rfl rfl (Still.move rfl rfl) ?_
  refine RunL.still rfl rfl rfl (Still.eql rfl rfl rfl) ?_
  refine RunL.again (t := 68) (u := .bool true) rfl (rfl) ?_
  refine RunL.still rfl rfl rfl (Still.pickT rfl rfl rfl) ?_
  refine RunL.still rfl rfl rfl (Still.move rfl rfl) ?_
  refine RunL.still rfl rfl rfl (Still.move rfl rfl) ?_
  refine RunL.still rfl rfl rfl (Still.eql rfl rfl rfl) ?_
  refine RunL.again (t := 72) (u := .bool true) rfl (rfl) ?_
  refine RunL.still rfl rfl rfl (Still.pickT rfl rfl rfl) ?_
  refine RunL.still rfl rfl rfl (Still.move rfl rfl) ?_
  refine RunL.still rfl rfl rfl (Still.move rfl rfl) ?_
  refine RunL.grows rfl rfl rfl (Grows.buildSlice (vs := #[(0, _), (1, _), (2, _), (3, _)]) (cells := #[iv 0, iv 0, iv 1, iv 1]) rfl rfl Tryz.underlying36 Tryz.sizeOf3 Tryz.zeroValue3 (by decide) (by kernel_rfl)) (fun b76 _ => ?_)
  refine RunL.conv (fun _ hs => Sym.obj_own (k := 1) (n := 4) hs rfl (by omega)) ?_
  refine RunL.grows rfl rfl rfl (Grows.call (vs := #[_, _]) rfl rfl Tryz.call30 (fun w hs => lw_same _ _ (compOf hopfD) [0, 0, 1, 1] w hov (own_shape (hs.own (i := 0) rfl)) (own_all (hs.own (i := 11) rfl)) (own_all (hs.own (i := 0) rfl)) (by decide +kernel))) (fun _ _ => ?_)
  refine RunL.again (t := 77) (u := .bool true) rfl (congrArg Value.bool (decide_eq_true hopf_comp)) ?_
  refine RunL.still rfl rfl rfl (Still.pickT rfl rfl rfl) ?_
  refine RunL.still rfl rfl rfl (Still.move rfl rfl) ?_
  refine RunL.still rfl rfl rfl (Still.move rfl rfl) ?_
  refine RunL.still rfl rfl rfl (Still.eql rfl rfl rfl) ?_
  refine RunL.again (t := 81) (u := .bool true) rfl (congrArg Value.bool (decide_eq_true (by rw [hopf_count]; rfl))) ?_
  refine RunL.still rfl rfl rfl (Still.pickT rfl rfl rfl) ?_
  refine RunL.still rfl rfl rfl (Still.move rfl rfl) ?_
  refine RunL.still rfl rfl rfl (Still.move rfl rfl) ?_
  refine RunL.still rfl rfl rfl (Still.eql rfl rfl rfl) ?_
  refine RunL.again (t := 85) (u := .bool true) rfl (congrArg Value.bool (decide_eq_true hopf_writhe)) ?_
  refine RunL.still rfl rfl rfl (Still.pickT rfl rfl rfl) ?_
  refine RunL.still rfl rfl rfl (Still.move rfl rfl) ?_
  refine RunL.still rfl rfl rfl (Still.move rfl rfl) ?_
  refine RunL.still rfl rfl rfl (Still.eql rfl rfl rfl) ?_
  refine RunL.again (t := 89) (u := .bool true) rfl (congrArg Value.bool (decide_eq_true hopf_linkR)) ?_
  refine RunL.still rfl rfl rfl (Still.pickT rfl rfl rfl) ?_
  refine RunL.still rfl rfl rfl (Still.move rfl rfl) ?_
  refine RunL.still rfl rfl rfl (Still.move rfl rfl) ?_
  refine RunL.still rfl rfl rfl (Still.eqlStrT rfl rfl rfl (mirH_text)) ?_
  refine RunL.again (t := 93) (u := .bool true) rfl (rfl) ?_
  refine RunL.still rfl rfl rfl (Still.pickT rfl rfl rfl) ?_
  refine RunL.still rfl rfl rfl (Still.move rfl rfl) ?_
  refine RunL.still rfl rfl rfl (Still.move rfl rfl) ?_
  refine RunL.still rfl rfl rfl (Still.lenOwn rfl rfl Tryz.underlying45 (fun _ hs => hs.own (i := 3) rfl)) ?_
  refine RunL.still rfl rfl rfl (Still.eql rfl rfl rfl) ?_
  refine RunL.again (t := 98) (u := .bool true) rfl (congrArg Value.bool (decide_eq_true (show ((rs.length : Nat) : Int) = 4 by rw [hrl]; rfl))) ?_
  refine RunL.still rfl rfl rfl (Still.pickT rfl rfl rfl) ?_
  refine RunL.still rfl rfl rfl (Still.move rfl rfl) ?_
  refine RunL.still rfl rfl rfl (Still.loads rfl rfl Tryz.isAgg24 Tryz.sizeOf24 (vs := [_, _]) rfl (fun _ hs => cells_nth (hs.at (i := 1) rfl) ⟨rfl, ⟨rfl, trivial⟩⟩)) ?_
  refine RunL.grows rfl rfl rfl (Grows.call (vs := #[_]) rfl rfl Tryz.call20 (fun w hs => dg_Check _ _ _ flatD w (DiaAt.of_ownD flat_sound (g := (some ⟨g6, 0, none⟩, 2)) (hs.at (i := 2) rfl)))) (fun _ _ => ?_)
  refine RunL.still rfl rfl rfl (Still.eql rfl rfl rfl) ?_
  refine RunL.again (t := 103) (u := .bool true) rfl (congrArg Value.bool (decide_eq_true flat_bad)) ?_
  refine RunL.still rfl rfl rfl (Still.pickT rfl rfl rfl) ?_
  refine RunL.still rfl rfl rfl (Still.assign rfl rfl) ?_
  refine RunL.nil ?_
  refine Ends.then ?_
  refine RunC.ret ?_
  refine Ends.leave (.inl rfl) (fun _ _ ok => results1 Tryz.results13 (Holds.tmp rfl) ok) (fun w1 hs => ?_)
  exact Ret.intro () trivial rfl (HSub.nil _) hs

end Go.Proofs
/- Texts of diagrams: the text of a valid diagram is read back. -/
namespace Go.V
open Go
theorem mid_of_sound {d : Dia} (h : SoundP d) : ∀ x ∈ d.cross, MidCr x := fun x hx p hp => by
  have h1 := (h.2.2.2.1 x hx).2 p hp
  have h2 := h.1
  omega
theorem ok_of_sound {d : Dia} (h : SoundP d) : ∀ x ∈ d.cross, OkCr x := fun x hx => ⟨(h.2.2.2.1 x hx).1, mid_of_sound h x hx⟩
theorem joinS_list (xs : List Cr) : (joinS (xs.map crS)).data.toList = listL xs := by
  show (Lib.join ((xs.map crS).map (·.data.toList)) semiS.data.toList).toArray.toList = _
  rw [map_data]
  rfl
theorem textOf_list (d : Dia) : (textOf d).data.toList = (if d.cross = [] then [] else listL d.cross ++ barL) ++ numL d.loops := by
  rw [textOf]
  by_cases h : d.cross = []
  · rw [if_pos (by rw [h]; rfl), if_pos h, numS_list]; rfl
  · rw [if_neg (fun e => h (List.length_eq_zero_iff.1 e)), if_neg h]
    have := joinS_list d.cross
    have h2 := numS_list d.loops
    show ((joinS (d.cross.map crS) ++ barS) ++ numS d.loops).data.toList = _
    simp only [ByteArray.data_append, Array.toList_append, this, h2]
    rfl
theorem text_is {d : Dia} (h : SoundP d) : TextIs (textOf d) d := ⟨ok_of_sound h, h.2.1, by have := h.2.2.1; omega, textOf_list d⟩
theorem numS_sz {n : Int} (h0 : 0 ≤ n) (h : n ≤ 1000) : (numS n).size ≤ 4 := by
  have := dec_len 3 n.toNat (by omega)
  rw [← size_list, numS_list]; exact this
theorem crTo_sz {x : Cr} (h : MidCr x) : ∀ p, p ≤ 4 → (crTo x p).size ≤ 1 + 5 * p
  | 0, _ => by rw [crTo, sgnS_size]; omega
  | p + 1, hp => by
    have h1 := crTo_sz h p (by omega)
    have h2 := numS_sz (h p (by omega)).1 (h p (by omega)).2
    rw [crTo, ByteArray.size_append, ByteArray.size_append, show (⟨#[32]⟩ : ByteArray).size = 1 from rfl]; omega
theorem textOf_size {d : Dia} (h : SoundP d) : (textOf d).size ≤ 200000 := by
  have hl := numS_sz h.2.1 (by have := h.2.2.1; omega)
  have h200 := h.1
  rw [textOf]
  split
  · omega
  · have := joinS_size (k := 21) (l := d.cross.map crS) (fun s hs => by
      obtain ⟨x, hx, rfl⟩ := List.mem_map.1 hs
      exact crTo_sz (mid_of_sound h x hx) 4 (by omega))
    rw [List.length_map] at this
    rw [ByteArray.size_append, ByteArray.size_append, show barS.size = 3 from rfl]
    omega
theorem text_read {d : Dia} (h : SoundP d) (hc : checkI d = 0) : errR (textOf d) = 0 ∧ resR (textOf d) = d := errR_4 (by have := textOf_size h; omega) (read_complete (text_is h)) hc
theorem list_long (xs : List Cr) : xs.length ≤ (listL xs).length := by
  induction xs with
  | nil => exact Nat.zero_le _
  | cons x r ih =>
    cases r with
    | nil => rw [listL, List.map_cons, List.map_nil, join_single, crL_eq]; simp
    | cons y r =>
      rw [listL, List.map_cons, join_two _ (by simp)]
      have : (y :: r).length ≤ (Lib.join ((y :: r).map crL) semiL).length := ih
      simp only [List.length_cons, List.length_append] at this ⊢
      omega
/-- What a reading hands back is well formed. -/
theorem resR_wf (t : ByteArray) : (∀ x ∈ (resR t).cross, x.Wf) ∧ In64 (resR t).loops ∧ (resR t).cross.length ≤ 9223372036854775807 := by
  have hn : (∀ x ∈ nilD.cross, x.Wf) ∧ In64 nilD.loops ∧ nilD.cross.length ≤ 9223372036854775807 := ⟨fun _ hx => absurd hx List.not_mem_nil, by constructor <;> decide, by decide⟩
  by_cases h : 200000 < t.size
  · rw [(errR_1 h).2]; exact hn
  · cases hr : readR t with
    | none => rw [(errR_2n h hr).2]; exact hn
    | some d =>
      by_cases hc : checkI d = 0
      · rw [(errR_4 h hr hc).2]
        obtain ⟨hok, h0, h1, e⟩ := read_sound hr
        refine ⟨fun x hx => (hok x hx).wf, by constructor <;> omega, ?_⟩
        have h2 := congrArg List.length e
        rw [size_list] at h2
        by_cases hx : d.cross = []
        · rw [hx]; decide
        · rw [if_neg hx, List.length_append, List.length_append] at h2
          have := list_long d.cross
          omega
      · rw [(errR_3 h hr hc).2]; exact hn
theorem DiaAt.of_read {w : World} {q : Option Addr × Nat} {t : ByteArray} (h : (ownD q (resR t)).holds w) : DiaAt w q.1 (vaddr (.slice q.1 (resR t).cross.length q.2)) (resR t) := DiaAt.of_ownW (resR_wf t).1 (resR_wf t).2.1 (resR_wf t).2.2 h
end Go.V
/- The statement DiagTexts, walked. -/
namespace Go.Proofs
open Go Go.V
set_option maxRecDepth 20000
theorem z_Check_v (base : Option Addr) (A : Addr) (cap : Nat) (d : Dia) (v : Int) (w : World) (hd : DiaAt w base A d) (hc : checkI d = v) : Gives Tryz.prog 8 #[diaV base cap d] w Nil (fun _ : Unit => True) (fun _ => iv v) (fun _ => []) := by
  have h := ref_Check base A cap d w hd
  rwa [hc] at h
theorem dg_Parse_text (d : Dia) (w : World) (he : Env w) (hS : SoundP d) (hc : checkI d = 0) : Gives Tryz.prog 9 #[.string (textOf d)] w Nil (fun q : Option Addr × Nat => OKB q d.cross.length) (fun q => .tuple #[diaV q.1 q.2 d, iv 0]) (fun q => [ownD q d]) := by
  have h := dg_Parse (textOf d) w he
  rwa [(text_read hS hc).1, (text_read hS hc).2] at h
theorem dg_Same_self (base : Option Addr) (A : Addr) (cap : Nat) (d : Dia) (w : World) (hd : DiaAt w base A d) : Gives Tryz.prog 14 #[diaV base cap d, diaV base cap d] w Nil (fun _ : Unit => True) (fun _ => .bool true) (fun _ => []) := by
  have h := dg_Same base base A A cap cap d d w hd hd
  rwa [decide_eq_true rfl] at h

theorem lw_DiagTexts_big (ba : Option Addr) (A : Addr) (ca : Nat) (a : Dia) (bb : Option Addr) (B : Addr) (cb : Nat) (b : Dia) (t : ByteArray) (w : World) (hl : (20 < a.cross.length ∧ a.cross.length ≤ 200)) : Gives Tryz.prog 3 #[diaV ba ca a, diaV bb cb b, .string t] w Nil (fun _ : Unit => True) (fun _ => .bool true) (fun _ => []) := by
  refine fn_of_run (S := Nil) (args := [diaV ba ca a, diaV bb cb b, .string t]) (n := 102) (L := []) Tryz.func3 rfl Tryz.ntmps3 (Nat.le_of_ble_eq_true rfl) (Sym.nil _ _) ?_
  change RunC _ _ _ [(0, _), (1, _), (2, _)] _
  refine RunC.seq ?_
  refine RunC.region ?_
  refine RunL.grows rfl rfl rfl (Grows.box rfl rfl) (fun b3 _ => ?_)
  refine RunL.grows rfl rfl rfl (Grows.box rfl rfl) (fun b4 _ => ?_)
  refine RunL.still rfl rfl rfl (Still.assign rfl rfl) ?_
  refine RunL.nil ?_
  refine Ends.then ?_
  refine RunC.seq ?_
  refine RunC.seq ?_
  refine RunC.region ?_
  refine RunL.still rfl rfl rfl (Still.loads rfl rfl Tryz.isAgg24 Tryz.sizeOf24 (vs := [_, _]) rfl (fun _ hs => cells_nth (hs.at (i := 1) rfl) ⟨rfl, ⟨rfl, trivial⟩⟩)) ?_
  refine RunL.grows rfl rfl rfl (Grows.call (vs := #[_]) rfl rfl Tryz.call6 (fun w hs => lw_large ba ca a w)) (fun _ _ => ?_)
  refine RunL.again (t := 17) (u := .bool true) rfl (congrArg Value.bool (decide_eq_true (hl))) ?_
  refine RunL.still rfl rfl rfl (Still.move rfl rfl) ?_
  refine RunL.off rfl rfl rfl ?_
  refine RunL.off rfl rfl rfl ?_
  refine RunL.off rfl rfl rfl ?_
  refine RunL.off rfl rfl rfl ?_
  refine RunL.off rfl rfl rfl ?_
  refine RunL.off rfl rfl rfl ?_
  refine RunL.off rfl rfl rfl ?_
  refine RunL.off rfl rfl rfl ?_
  refine RunL.still rfl rfl rfl (Still.pickT rfl rfl rfl) ?_
  refine RunL.nil ?_
  refine Ends.then ?_
  refine RunC.cond_true rfl ?_
  refine RunC.seq ?_
  refine RunC.region ?_
  refine RunL.still rfl rfl rfl (Still.assign rfl rfl) ?_
  refine RunL.nil ?_
  refine Ends.then ?_
  refine RunC.ret ?_
  refine Ends.then_ret ?_
  refine Ends.leave (.inl rfl) (fun _ _ ok => results1 Tryz.results3 (Holds.tmp rfl) ok) (fun w1 hs => ?_)
  exact Ret.intro () trivial rfl (HSub.nil _) hs

theorem lw_DiagTexts_long (ba : Option Addr) (A : Addr) (ca : Nat) (a : Dia) (bb : Option Addr) (B : Addr) (cb : Nat) (b : Dia) (t : ByteArray) (w : World) (hl : ¬ (20 < a.cross.length ∧ a.cross.length ≤ 200)) (ht : (2000 < t.size ∧ t.size ≤ 200000)) : Gives Tryz.prog 3 #[diaV ba ca a, diaV bb cb b, .string t] w Nil (fun _ : Unit => True) (fun _ => .bool true) (fun _ => []) := by
  refine fn_of_run (S := Nil) (args := [diaV ba ca a, diaV bb cb b, .string t]) (n := 102) (L := []) Tryz.func3 rfl Tryz.ntmps3 (Nat.le_of_ble_eq_true rfl) (Sym.nil _ _) ?_
  change RunC _ _ _ [(0, _), (1, _), (2, _)] _
  refine RunC.seq ?_
  refine RunC.region ?_
  refine RunL.grows rfl rfl rfl (Grows.box rfl rfl) (fun b3 _ => ?_)
  refine RunL.grows rfl rfl rfl (Grows.box rfl rfl) (fun b4 _ => ?_)
  refine RunL.still rfl rfl rfl (Still.assign rfl rfl) ?_
  refine RunL.nil ?_
  refine Ends.then ?_
  refine RunC.seq ?_
  refine RunC.seq ?_
  refine RunC.region ?_
  refine RunL.still rfl rfl rfl (Still.loads rfl rfl Tryz.isAgg24 Tryz.sizeOf24 (vs := [_, _]) rfl (fun _ hs => cells_nth (hs.at (i := 1) rfl) ⟨rfl, ⟨rfl, trivial⟩⟩)) ?_
  refine RunL.grows rfl rfl rfl (Grows.call (vs := #[_]) rfl rfl Tryz.call6 (fun w hs => lw_large ba ca a w)) (fun _ _ => ?_)
  refine RunL.again (t := 17) (u := .bool false) rfl (congrArg Value.bool (decide_eq_false (hl))) ?_
  refine RunL.still rfl rfl rfl (Still.move rfl rfl) ?_
  refine RunL.still rfl rfl rfl (Still.move rfl rfl) ?_
  refine RunL.still rfl rfl rfl (Still.lenStr rfl rfl Tryz.underlying9) ?_
  refine RunL.still rfl rfl rfl (Still.gtr rfl rfl rfl) ?_
  refine RunL.again (t := 21) (u := .bool true) rfl (congrArg Value.bool (decide_eq_true (by omega))) ?_
  refine RunL.still rfl rfl rfl (Still.move rfl rfl) ?_
  refine RunL.still rfl rfl rfl (Still.move rfl rfl) ?_
  refine RunL.still rfl rfl rfl (Still.lenStr rfl rfl Tryz.underlying9) ?_
  refine RunL.still rfl rfl rfl (Still.leq rfl rfl rfl) ?_
  refine RunL.again (t := 25) (u := .bool true) rfl (congrArg Value.bool (decide_eq_true (by omega))) ?_
  refine RunL.still rfl rfl rfl (Still.pickT rfl rfl rfl) ?_
  refine RunL.still rfl rfl rfl (Still.pickF rfl rfl rfl) ?_
  refine RunL.nil ?_
  refine Ends.then ?_
  refine RunC.cond_true rfl ?_
  refine RunC.seq ?_
  refine RunC.region ?_
  refine RunL.still rfl rfl rfl (Still.assign rfl rfl) ?_
  refine RunL.nil ?_
  refine Ends.then ?_
  refine RunC.ret ?_
  refine Ends.then_ret ?_
  refine Ends.leave (.inl rfl) (fun _ _ ok => results1 Tryz.results3 (Holds.tmp rfl) ok) (fun w1 hs => ?_)
  exact Ret.intro () trivial rfl (HSub.nil _) hs

theorem lw_DiagTexts_bad (ba : Option Addr) (A : Addr) (ca : Nat) (a : Dia) (bb : Option Addr) (B : Addr) (cb : Nat) (b : Dia) (t : ByteArray) (w : World) (he : Env w) (hda : DiaAt w ba A a) (hdb : DiaAt w bb B b) (hl : ¬ (20 < a.cross.length ∧ a.cross.length ≤ 200)) (ht : ¬ (2000 < t.size ∧ t.size ≤ 200000)) (hc : checkI a ≠ 0) : Gives Tryz.prog 3 #[diaV ba ca a, diaV bb cb b, .string t] w Nil (fun _ : Unit => True) (fun _ => .bool true) (fun _ => []) := by
  refine fn_of_run (S := Nil) (args := [diaV ba ca a, diaV bb cb b, .string t]) (n := 102) (L := []) Tryz.func3 rfl Tryz.ntmps3 (Nat.le_of_ble_eq_true rfl) (Sym.nil _ _) ?_
  change RunC _ _ _ [(0, _), (1, _), (2, _)] _
  refine RunC.seq ?_
  refine RunC.region ?_
  refine RunL.grows rfl rfl rfl (Grows.box rfl rfl) (fun b3 _ => ?_)
  refine RunL.grows rfl rfl rfl (Grows.box rfl rfl) (fun b4 _ => ?_)
  refine RunL.still rfl rfl rfl (Still.assign rfl rfl) ?_
  refine RunL.nil ?_
  refine Ends.then ?_
  refine RunC.seq ?_
  refine RunC.seq ?_
  refine RunC.meet1 (chg := [(27, .bool (decide ((2000 < t.size ∧ t.size ≤ 200000))))]) (keep := [(2, _), (3, _), (4, _)]) (hkeep := [_, _]) (Fr.Sub.cons rfl (Fr.Sub.cons rfl (Fr.Sub.cons rfl (Fr.Sub.nil _)))) (HSub.pick 0 rfl (HSub.pick 0 rfl (HSub.nil _))) ?_ ?_
  ·
    refine RunC.region ?_
    refine RunL.still rfl rfl rfl (Still.loads rfl rfl Tryz.isAgg24 Tryz.sizeOf24 (vs := [_, _]) rfl (fun _ hs => cells_nth (hs.at (i := 1) rfl) ⟨rfl, ⟨rfl, trivial⟩⟩)) ?_
    refine RunL.grows rfl rfl rfl (Grows.call (vs := #[_]) rfl rfl Tryz.call6 (fun w hs => lw_large ba ca a w)) (fun _ _ => ?_)
    refine RunL.again (t := 17) (u := .bool false) rfl (congrArg Value.bool (decide_eq_false (hl))) ?_
    refine RunL.still rfl rfl rfl (Still.move rfl rfl) ?_
    refine RunL.still rfl rfl rfl (Still.move rfl rfl) ?_
    refine RunL.still rfl rfl rfl (Still.lenStr rfl rfl Tryz.underlying9) ?_
    refine RunL.still rfl rfl rfl (Still.gtr rfl rfl rfl) ?_
    refine RunL.still rfl rfl rfl (Still.move rfl rfl) ?_
    refine RunL.split (t := 22) rfl (fun h22 => ?_) (fun h22 => ?_)
    · have h22 := of_decide_eq_true h22
      refine RunL.still rfl rfl rfl (Still.move rfl rfl) ?_
      refine RunL.still rfl rfl rfl (Still.lenStr rfl rfl Tryz.underlying9) ?_
      refine RunL.still rfl rfl rfl (Still.leq rfl rfl rfl) ?_
      refine RunL.still rfl rfl rfl (Still.pickT rfl rfl rfl) ?_
      refine RunL.still rfl rfl rfl (Still.pickF rfl rfl rfl) ?_
      refine RunL.nil ?_
      exact Ends.meet1 (Fr.Sub.cons (by first | exact congrArg (fun b => some (Value.bool b)) (decide_eq_true (by omega)).symm | exact congrArg (fun b => some (Value.bool b)) (decide_eq_false (by omega)).symm | exact congrArg (fun b => some (Value.bool b)) (decide_eq_decide.2 (by omega))) (Fr.Sub.nil _)) (Fr.Sub.cons rfl (Fr.Sub.cons rfl (Fr.Sub.cons rfl (Fr.Sub.nil _)))) (HSub.pick 0 rfl (HSub.pick 0 rfl (HSub.nil _)))
    · have h22 := of_decide_eq_false h22
      refine RunL.off rfl rfl rfl ?_
      refine RunL.off rfl rfl rfl ?_
      refine RunL.off rfl rfl rfl ?_
      refine RunL.still rfl rfl rfl (Still.pickF rfl rfl rfl) ?_
      refine RunL.still rfl rfl rfl (Still.pickF rfl rfl rfl) ?_
      refine RunL.nil ?_
      exact Ends.meet1 (Fr.Sub.cons (by first | exact congrArg (fun b => some (Value.bool b)) (decide_eq_true (by omega)).symm | exact congrArg (fun b => some (Value.bool b)) (decide_eq_false (by omega)).symm | exact congrArg (fun b => some (Value.bool b)) (decide_eq_decide.2 (by omega))) (Fr.Sub.nil _)) (Fr.Sub.cons rfl (Fr.Sub.cons rfl (Fr.Sub.cons rfl (Fr.Sub.nil _)))) (HSub.pick 0 rfl (HSub.pick 0 rfl (HSub.nil _)))
  ·
    refine Ends.then ?_
    refine RunC.cond rfl (fun h27 => ?_) (fun h27 => ?_)
    · have h27 := of_decide_eq_true h27
      exact absurd h27 ht
    · have h27 := of_decide_eq_false h27
      refine RunC.skip ?_
      refine Ends.then ?_
      refine RunC.seq ?_
      refine RunC.region ?_
      refine RunL.still rfl rfl rfl (Still.loads rfl rfl Tryz.isAgg24 Tryz.sizeOf24 (vs := [_, _]) rfl (fun _ hs => cells_nth (hs.at (i := 1) rfl) ⟨rfl, ⟨rfl, trivial⟩⟩)) ?_
      refine RunL.grows rfl rfl rfl (Grows.call (vs := #[_]) rfl rfl Tryz.call7 (fun w hs => dg_Text_bad ba A ca a w (hda.sym hs) hc)) (fun _ _ => ?_)
      refine RunL.still rfl rfl rfl (Still.move rfl rfl) ?_
      refine RunL.still rfl rfl rfl (Still.extractN rfl rfl rfl) ?_
      refine RunL.still rfl rfl rfl (Still.extractN rfl rfl rfl) ?_
      refine RunL.still rfl rfl rfl (Still.assign rfl rfl) ?_
      refine RunL.still rfl rfl rfl (Still.assign rfl rfl) ?_
      refine RunL.nil ?_
      refine Ends.then ?_
      refine RunC.seq ?_
      refine RunC.seq ?_
      refine RunC.region ?_
      refine RunL.still rfl rfl rfl (Still.loads rfl rfl Tryz.isAgg24 Tryz.sizeOf24 (vs := [_, _]) rfl (fun _ hs => cells_nth (hs.at (i := 1) rfl) ⟨rfl, ⟨rfl, trivial⟩⟩)) ?_
      refine RunL.grows rfl rfl rfl (Grows.call (vs := #[_]) rfl rfl Tryz.call8 (fun w hs => ref_Check ba A ca a w (hda.sym hs))) (fun _ _ => ?_)
      refine RunL.still rfl rfl rfl (Still.assign rfl rfl) ?_
      refine RunL.nil ?_
      refine Ends.then ?_
      refine RunC.seq ?_
      refine RunC.region ?_
      refine RunL.still rfl rfl rfl (Still.move rfl rfl) ?_
      refine RunL.still rfl rfl rfl (Still.neq rfl rfl rfl) ?_
      refine RunL.again (t := 36) (u := .bool true) rfl (congrArg Value.bool (decide_eq_true (hc))) ?_
      refine RunL.nil ?_
      refine Ends.then ?_
      refine RunC.cond_true rfl ?_
      refine RunC.seq ?_
      refine RunC.region ?_
      refine RunL.still rfl rfl rfl (Still.move rfl rfl) ?_
      refine RunL.still rfl rfl rfl (Still.move rfl rfl) ?_
      refine RunL.still rfl rfl rfl (Still.neq rfl rfl rfl) ?_
      refine RunL.again (t := 39) (u := .bool false) rfl (congrArg Value.bool (decide_eq_false (fun h => h rfl))) ?_
      refine RunL.still rfl rfl rfl (Still.move rfl rfl) ?_
      refine RunL.still rfl rfl rfl (Still.move rfl rfl) ?_
      refine RunL.still rfl rfl rfl (Still.neqStrD rfl rfl rfl) ?_
      refine RunL.again (t := 42) (u := .bool false) rfl (congrArg Value.bool (decide_eq_false (fun h => h rfl))) ?_
      refine RunL.still rfl rfl rfl (Still.pickF rfl rfl rfl) ?_
      refine RunL.nil ?_
      refine Ends.then ?_
      refine RunC.cond_false rfl ?_
      refine RunC.skip ?_
      refine Ends.then ?_
      refine RunC.seq ?_
      refine RunC.region ?_
      refine RunL.still rfl rfl rfl (Still.move rfl rfl) ?_
      refine RunL.grows rfl rfl rfl (Grows.call (vs := #[_]) rfl rfl Tryz.call9 (fun w hs => dg_Parse t w (he.sym hs))) (fun q1 _ => ?_)
      refine RunL.still rfl rfl rfl (Still.move rfl rfl) ?_
      refine RunL.still rfl rfl rfl (Still.extractN rfl rfl rfl) ?_
      refine RunL.still rfl rfl rfl (Still.extractN rfl rfl rfl) ?_
      refine RunL.grows rfl rfl rfl (Grows.alloc rfl Tryz.zeroValue24) (fun b12 _ => ?_)
      refine RunL.does0 rfl rfl (Does.store rfl rfl rfl (i := 0) rfl Tryz.sizeOf24 rfl (rfl) rfl) (fun _ _ => ?_)
      refine RunL.still rfl rfl rfl (Still.assign rfl rfl) ?_
      refine RunL.nil ?_
      refine Ends.then ?_
      refine RunC.seq ?_
      refine RunC.region ?_
      refine RunL.still rfl rfl rfl (Still.move rfl rfl) ?_
      refine RunL.grows rfl rfl rfl (Grows.call (vs := #[_]) rfl rfl Tryz.call12 (fun w hs => ref_Parse t w)) (fun q2 _ => ?_)
      refine RunL.still rfl rfl rfl (Still.move rfl rfl) ?_
      refine RunL.still rfl rfl rfl (Still.extractN rfl rfl rfl) ?_
      refine RunL.still rfl rfl rfl (Still.extractN rfl rfl rfl) ?_
      refine RunL.grows rfl rfl rfl (Grows.alloc rfl Tryz.zeroValue24) (fun b14 _ => ?_)
      refine RunL.does0 rfl rfl (Does.store rfl rfl rfl (i := 0) rfl Tryz.sizeOf24 rfl (rfl) rfl) (fun _ _ => ?_)
      refine RunL.still rfl rfl rfl (Still.assign rfl rfl) ?_
      refine RunL.nil ?_
      refine Ends.then ?_
      refine RunC.seq ?_
      refine RunC.draw 23 (.one 0 (.still 1 (.still 2 (.still 3 (.still 4 (.still 5 (.still 6 (.still 7 (.still 8 (.one 9 (.still 10 (.still 11 (.still 12 (.still 13 (.still 15 (.still 16 (.one 14 (.one 17 (.still 18 (.still 19 (.still 20 (.still 21 (.still 22 .done))))))))))))))))))))))) (by kernel_rfl) (by kernel_rfl) ?_
      refine RunG.grows rfl rfl rfl rfl (Grows.call (vs := #[]) rfl rfl Tryz.call13 (fun w hs => lw_sane w)) (fun _ _ => ?_)
      refine RunG.again (t := 77) (u := .bool true) rfl (rfl) ?_
      refine RunG.still rfl rfl rfl rfl (Still.move rfl rfl) ?_
      refine RunG.again (t := 78) (u := .bool true) rfl (rfl) ?_
      refine RunG.still rfl rfl rfl rfl (Still.move rfl rfl) ?_
      refine RunG.still rfl rfl rfl rfl (Still.move rfl rfl) ?_
      refine RunG.still rfl rfl rfl rfl (Still.eql rfl rfl rfl) ?_
      refine RunG.again (t := 81) (u := .bool true) rfl (congrArg Value.bool (decide_eq_true (rfl))) ?_
      refine RunG.still rfl rfl rfl rfl (Still.pickT rfl rfl rfl) ?_
      refine RunG.still rfl rfl rfl rfl (Still.move rfl rfl) ?_
      refine RunG.still rfl rfl rfl rfl (Still.loads rfl rfl Tryz.isAgg24 Tryz.sizeOf24 (vs := [_, _]) rfl (fun _ hs => cells_nth (hs.at (i := 2) rfl) ⟨rfl, ⟨rfl, trivial⟩⟩)) ?_
      refine RunG.still rfl rfl rfl rfl (Still.loads rfl rfl Tryz.isAgg24 Tryz.sizeOf24 (vs := [_, _]) rfl (fun _ hs => cells_nth (hs.at (i := 0) rfl) ⟨rfl, ⟨rfl, trivial⟩⟩)) ?_
      refine RunG.grows rfl rfl rfl rfl (Grows.call (vs := #[_, _]) rfl rfl Tryz.call11 (fun w hs => ref_Same_eq q1.1 q2.1 _ _ q1.2 q2.2 (resR t) (resR t) w (DiaAt.of_read (hs.at (i := 3) rfl)) (DiaAt.of_read (hs.at (i := 1) rfl)) rfl)) (fun _ _ => ?_)
      refine RunG.again (t := 86) (u := .bool true) rfl (rfl) ?_
      refine RunG.still rfl rfl rfl rfl (Still.pickT rfl rfl rfl) ?_
      refine RunG.still rfl rfl rfl rfl (Still.move rfl rfl) ?_
      refine RunG.still rfl rfl rfl rfl (Still.loads rfl rfl Tryz.isAgg24 Tryz.sizeOf24 (vs := [_, _]) rfl (fun _ hs => cells_nth (hs.at (i := 5) rfl) ⟨rfl, ⟨rfl, trivial⟩⟩)) ?_
      refine RunG.still rfl rfl rfl rfl (Still.loads rfl rfl Tryz.isAgg24 Tryz.sizeOf24 (vs := [_, _]) rfl (fun _ hs => cells_nth (hs.at (i := 4) rfl) ⟨rfl, ⟨rfl, trivial⟩⟩)) ?_
      refine RunG.still rfl rfl rfl rfl (Still.loads rfl rfl Tryz.isAgg24 Tryz.sizeOf24 (vs := [_, _]) rfl (fun _ hs => cells_nth (hs.at (i := 5) rfl) ⟨rfl, ⟨rfl, trivial⟩⟩)) ?_
      refine RunG.still rfl rfl rfl rfl (Still.loads rfl rfl Tryz.isAgg24 Tryz.sizeOf24 (vs := [_, _]) rfl (fun _ hs => cells_nth (hs.at (i := 4) rfl) ⟨rfl, ⟨rfl, trivial⟩⟩)) ?_
      refine RunG.grows rfl rfl rfl rfl (Grows.call (vs := #[_, _]) rfl rfl Tryz.call14 (fun w hs => dg_Same ba bb A B ca cb a b w (hda.sym hs) (hdb.sym hs))) (fun _ _ => ?_)
      refine RunG.grows rfl rfl rfl rfl (Grows.call (vs := #[_, _]) rfl rfl Tryz.call11 (fun w hs => ref_Same ba bb A B ca cb a b w (hda.sym hs) (hdb.sym hs))) (fun _ _ => ?_)
      refine RunG.still rfl rfl rfl rfl (Still.eqlB rfl rfl rfl Tryz.underlying4) ?_
      refine RunG.again (t := 95) (u := .bool true) rfl (congrArg Value.bool (beq_self_eq_true _)) ?_
      refine RunG.still rfl rfl rfl rfl (Still.pickT rfl rfl rfl) ?_
      refine RunG.still rfl rfl rfl rfl (Still.move rfl rfl) ?_
      refine RunG.still rfl rfl rfl rfl (Still.loads rfl rfl Tryz.isAgg24 Tryz.sizeOf24 (vs := [_, _]) rfl (fun _ hs => cells_nth (hs.at (i := 5) rfl) ⟨rfl, ⟨rfl, trivial⟩⟩)) ?_
      refine RunG.still rfl rfl rfl rfl (Still.loads rfl rfl Tryz.isAgg24 Tryz.sizeOf24 (vs := [_, _]) rfl (fun _ hs => cells_nth (hs.at (i := 5) rfl) ⟨rfl, ⟨rfl, trivial⟩⟩)) ?_
      refine RunG.done ?_
      show RunL _ _ _ [_, _, _] _ _
      refine RunL.grows rfl rfl rfl (Grows.call (vs := #[_, _]) rfl rfl Tryz.call14 (fun w hs => dg_Same_self ba A ca a w (hda.sym hs))) (fun _ _ => ?_)
      refine RunL.again (t := 100) (u := .bool true) rfl (rfl) ?_
      refine RunL.still rfl rfl rfl (Still.pickT rfl rfl rfl) ?_
      refine RunL.still rfl rfl rfl (Still.assign rfl rfl) ?_
      refine RunL.nil ?_
      refine Ends.then ?_
      refine RunC.ret ?_
      refine Ends.leave (.inl rfl) (fun _ _ ok => results1 Tryz.results3 (Holds.tmp rfl) ok) (fun w1 hs => ?_)
      exact Ret.intro () trivial rfl (HSub.nil _) hs

theorem lw_DiagTexts_ok (ba : Option Addr) (A : Addr) (ca : Nat) (a : Dia) (bb : Option Addr) (B : Addr) (cb : Nat) (b : Dia) (t : ByteArray) (w : World) (he : Env w) (hda : DiaAt w ba A a) (hdb : DiaAt w bb B b) (hl : ¬ (20 < a.cross.length ∧ a.cross.length ≤ 200)) (ht : ¬ (2000 < t.size ∧ t.size ≤ 200000)) (hc : checkI a = 0) : Gives Tryz.prog 3 #[diaV ba ca a, diaV bb cb b, .string t] w Nil (fun _ : Unit => True) (fun _ => .bool true) (fun _ => []) := by
  obtain ⟨hS, hPl⟩ := checkI_ok.1 hc
  have hlo := hS.2.1
  have hlo2 := hS.2.2.1
  refine fn_of_run (S := Nil) (args := [diaV ba ca a, diaV bb cb b, .string t]) (n := 102) (L := []) Tryz.func3 rfl Tryz.ntmps3 (Nat.le_of_ble_eq_true rfl) (Sym.nil _ _) ?_
  change RunC _ _ _ [(0, _), (1, _), (2, _)] _
  refine RunC.seq ?_
  refine RunC.region ?_
  refine RunL.grows rfl rfl rfl (Grows.box rfl rfl) (fun b3 _ => ?_)
  refine RunL.grows rfl rfl rfl (Grows.box rfl rfl) (fun b4 _ => ?_)
  refine RunL.still rfl rfl rfl (Still.assign rfl rfl) ?_
  refine RunL.nil ?_
  refine Ends.then ?_
  refine RunC.seq ?_
  refine RunC.seq ?_
  refine RunC.meet1 (chg := [(27, .bool (decide ((2000 < t.size ∧ t.size ≤ 200000))))]) (keep := [(2, _), (3, _), (4, _)]) (hkeep := [_, _]) (Fr.Sub.cons rfl (Fr.Sub.cons rfl (Fr.Sub.cons rfl (Fr.Sub.nil _)))) (HSub.pick 0 rfl (HSub.pick 0 rfl (HSub.nil _))) ?_ ?_
  ·
    refine RunC.region ?_
    refine RunL.still rfl rfl rfl (Still.loads rfl rfl Tryz.isAgg24 Tryz.sizeOf24 (vs := [_, _]) rfl (fun _ hs => cells_nth (hs.at (i := 1) rfl) ⟨rfl, ⟨rfl, trivial⟩⟩)) ?_
    refine RunL.grows rfl rfl rfl (Grows.call (vs := #[_]) rfl rfl Tryz.call6 (fun w hs => lw_large ba ca a w)) (fun _ _ => ?_)
    refine RunL.again (t := 17) (u := .bool false) rfl (congrArg Value.bool (decide_eq_false (hl))) ?_
    refine RunL.still rfl rfl rfl (Still.move rfl rfl) ?_
    refine RunL.still rfl rfl rfl (Still.move rfl rfl) ?_
    refine RunL.still rfl rfl rfl (Still.lenStr rfl rfl Tryz.underlying9) ?_
    refine RunL.still rfl rfl rfl (Still.gtr rfl rfl rfl) ?_
    refine RunL.still rfl rfl rfl (Still.move rfl rfl) ?_
    refine RunL.split (t := 22) rfl (fun h22 => ?_) (fun h22 => ?_)
    · have h22 := of_decide_eq_true h22
      refine RunL.still rfl rfl rfl (Still.move rfl rfl) ?_
      refine RunL.still rfl rfl rfl (Still.lenStr rfl rfl Tryz.underlying9) ?_
      refine RunL.still rfl rfl rfl (Still.leq rfl rfl rfl) ?_
      refine RunL.still rfl rfl rfl (Still.pickT rfl rfl rfl) ?_
      refine RunL.still rfl rfl rfl (Still.pickF rfl rfl rfl) ?_
      refine RunL.nil ?_
      exact Ends.meet1 (Fr.Sub.cons (by first | exact congrArg (fun b => some (Value.bool b)) (decide_eq_true (by omega)).symm | exact congrArg (fun b => some (Value.bool b)) (decide_eq_false (by omega)).symm | exact congrArg (fun b => some (Value.bool b)) (decide_eq_decide.2 (by omega))) (Fr.Sub.nil _)) (Fr.Sub.cons rfl (Fr.Sub.cons rfl (Fr.Sub.cons rfl (Fr.Sub.nil _)))) (HSub.pick 0 rfl (HSub.pick 0 rfl (HSub.nil _)))
    · have h22 := of_decide_eq_false h22
      refine RunL.off rfl rfl rfl ?_
      refine RunL.off rfl rfl rfl ?_
      refine RunL.off rfl rfl rfl ?_
      refine RunL.still rfl rfl rfl (Still.pickF rfl rfl rfl) ?_
      refine RunL.still rfl rfl rfl (Still.pickF rfl rfl rfl) ?_
      refine RunL.nil ?_
      exact Ends.meet1 (Fr.Sub.cons (by first | exact congrArg (fun b => some (Value.bool b)) (decide_eq_true (by omega)).symm | exact congrArg (fun b => some (Value.bool b)) (decide_eq_false (by omega)).symm | exact congrArg (fun b => some (Value.bool b)) (decide_eq_decide.2 (by omega))) (Fr.Sub.nil _)) (Fr.Sub.cons rfl (Fr.Sub.cons rfl (Fr.Sub.cons rfl (Fr.Sub.nil _)))) (HSub.pick 0 rfl (HSub.pick 0 rfl (HSub.nil _)))
  ·
    refine Ends.then ?_
    refine RunC.cond rfl (fun h27 => ?_) (fun h27 => ?_)
    · have h27 := of_decide_eq_true h27
      exact absurd h27 ht
    · have h27 := of_decide_eq_false h27
      refine RunC.skip ?_
      refine Ends.then ?_
      refine RunC.seq ?_
      refine RunC.region ?_
      refine RunL.still rfl rfl rfl (Still.loads rfl rfl Tryz.isAgg24 Tryz.sizeOf24 (vs := [_, _]) rfl (fun _ hs => cells_nth (hs.at (i := 1) rfl) ⟨rfl, ⟨rfl, trivial⟩⟩)) ?_
      refine RunL.grows rfl rfl rfl (Grows.call (vs := #[_]) rfl rfl Tryz.call7 (fun w hs => dg_Text ba A ca a w (hda.sym hs) hc (mid_of_sound hS) (by omega) (he.sym hs))) (fun _ _ => ?_)
      refine RunL.still rfl rfl rfl (Still.move rfl rfl) ?_
      refine RunL.still rfl rfl rfl (Still.extractN rfl rfl rfl) ?_
      refine RunL.still rfl rfl rfl (Still.extractN rfl rfl rfl) ?_
      refine RunL.still rfl rfl rfl (Still.assign rfl rfl) ?_
      refine RunL.still rfl rfl rfl (Still.assign rfl rfl) ?_
      refine RunL.nil ?_
      refine Ends.then ?_
      refine RunC.seq ?_
      refine RunC.seq ?_
      refine RunC.region ?_
      refine RunL.still rfl rfl rfl (Still.loads rfl rfl Tryz.isAgg24 Tryz.sizeOf24 (vs := [_, _]) rfl (fun _ hs => cells_nth (hs.at (i := 1) rfl) ⟨rfl, ⟨rfl, trivial⟩⟩)) ?_
      refine RunL.grows rfl rfl rfl (Grows.call (vs := #[_]) rfl rfl Tryz.call8 (fun w hs => z_Check_v ba A ca a 0 w (hda.sym hs) hc)) (fun _ _ => ?_)
      refine RunL.still rfl rfl rfl (Still.assign rfl rfl) ?_
      refine RunL.nil ?_
      refine Ends.then ?_
      refine RunC.seq ?_
      refine RunC.region ?_
      refine RunL.still rfl rfl rfl (Still.move rfl rfl) ?_
      refine RunL.still rfl rfl rfl (Still.neq rfl rfl rfl) ?_
      refine RunL.again (t := 36) (u := .bool false) rfl (rfl) ?_
      refine RunL.nil ?_
      refine Ends.then ?_
      refine RunC.cond_false rfl ?_
      refine RunC.seq ?_
      refine RunC.region ?_
      refine RunL.still rfl rfl rfl (Still.move rfl rfl) ?_
      refine RunL.grows rfl rfl rfl (Grows.call (vs := #[_]) rfl rfl Tryz.call9 (fun w hs => dg_Parse_text a w (he.sym hs) hS hc)) (fun q0 _ => ?_)
      refine RunL.still rfl rfl rfl (Still.move rfl rfl) ?_
      refine RunL.still rfl rfl rfl (Still.extractN rfl rfl rfl) ?_
      refine RunL.still rfl rfl rfl (Still.extractN rfl rfl rfl) ?_
      refine RunL.grows rfl rfl rfl (Grows.alloc rfl Tryz.zeroValue24) (fun b10 _ => ?_)
      refine RunL.does0 rfl rfl (Does.store rfl rfl rfl (i := 0) rfl Tryz.sizeOf24 rfl (rfl) rfl) (fun _ _ => ?_)
      refine RunL.still rfl rfl rfl (Still.assign rfl rfl) ?_
      refine RunL.nil ?_
      refine Ends.then ?_
      refine RunC.seq ?_
      refine RunC.region ?_
      refine RunL.still rfl rfl rfl (Still.move rfl rfl) ?_
      refine RunL.still rfl rfl rfl (Still.neq rfl rfl rfl) ?_
      refine RunL.again (t := 50) (u := .bool false) rfl (rfl) ?_
      refine RunL.still rfl rfl rfl (Still.move rfl rfl) ?_
      refine RunL.still rfl rfl rfl (Still.move rfl rfl) ?_
      refine RunL.still rfl rfl rfl (Still.loads rfl rfl Tryz.isAgg24 Tryz.sizeOf24 (vs := [_, _]) rfl (fun _ hs => cells_nth (hs.at (i := 3) rfl) ⟨rfl, ⟨rfl, trivial⟩⟩)) ?_
      refine RunL.grows rfl rfl rfl (Grows.call (vs := #[_]) rfl rfl Tryz.call10 (fun w hs => ref_Text ba A ca a w (hda.sym hs) (mid_of_sound hS) (fun x hx => (ok_of_sound hS x hx).1) hS.1 hlo (by omega))) (fun _ _ => ?_)
      refine RunL.still rfl rfl rfl (Still.neqStrD rfl rfl rfl) ?_
      refine RunL.again (t := 55) (u := .bool false) rfl (congrArg Value.bool (decide_eq_false (fun h => h rfl))) ?_
      refine RunL.still rfl rfl rfl (Still.pickF rfl rfl rfl) ?_
      refine RunL.still rfl rfl rfl (Still.move rfl rfl) ?_
      refine RunL.still rfl rfl rfl (Still.move rfl rfl) ?_
      refine RunL.still rfl rfl rfl (Still.neq rfl rfl rfl) ?_
      refine RunL.again (t := 59) (u := .bool false) rfl (rfl) ?_
      refine RunL.still rfl rfl rfl (Still.pickF rfl rfl rfl) ?_
      refine RunL.still rfl rfl rfl (Still.move rfl rfl) ?_
      refine RunL.still rfl rfl rfl (Still.loads rfl rfl Tryz.isAgg24 Tryz.sizeOf24 (vs := [_, _]) rfl (fun _ hs => cells_nth (hs.at (i := 0) rfl) ⟨rfl, ⟨rfl, trivial⟩⟩)) ?_
      refine RunL.still rfl rfl rfl (Still.loads rfl rfl Tryz.isAgg24 Tryz.sizeOf24 (vs := [_, _]) rfl (fun _ hs => cells_nth (hs.at (i := 3) rfl) ⟨rfl, ⟨rfl, trivial⟩⟩)) ?_
      refine RunL.grows rfl rfl rfl (Grows.call (vs := #[_, _]) rfl rfl Tryz.call11 (fun w hs => ref_Same_eq q0.1 ba _ A q0.2 ca a a w (DiaAt.of_ownD hS (hs.at (i := 1) rfl)) (hda.sym hs) rfl)) (fun _ _ => ?_)
      refine RunL.again (t := 64) (u := .bool true) rfl (rfl) ?_
      refine RunL.still rfl rfl rfl (Still.not rfl rfl) ?_
      refine RunL.still rfl rfl rfl (Still.pickF rfl rfl rfl) ?_
      refine RunL.nil ?_
      refine Ends.then ?_
      refine RunC.cond_false rfl ?_
      refine RunC.skip ?_
      refine Ends.then ?_
      refine RunC.seq ?_
      refine RunC.region ?_
      refine RunL.still rfl rfl rfl (Still.move rfl rfl) ?_
      refine RunL.grows rfl rfl rfl (Grows.call (vs := #[_]) rfl rfl Tryz.call9 (fun w hs => dg_Parse t w (he.sym hs))) (fun q1 _ => ?_)
      refine RunL.still rfl rfl rfl (Still.move rfl rfl) ?_
      refine RunL.still rfl rfl rfl (Still.extractN rfl rfl rfl) ?_
      refine RunL.still rfl rfl rfl (Still.extractN rfl rfl rfl) ?_
      refine RunL.grows rfl rfl rfl (Grows.alloc rfl Tryz.zeroValue24) (fun b12 _ => ?_)
      refine RunL.does0 rfl rfl (Does.store rfl rfl rfl (i := 0) rfl Tryz.sizeOf24 rfl (rfl) rfl) (fun _ _ => ?_)
      refine RunL.still rfl rfl rfl (Still.assign rfl rfl) ?_
      refine RunL.nil ?_
      refine Ends.then ?_
      refine RunC.seq ?_
      refine RunC.region ?_
      refine RunL.still rfl rfl rfl (Still.move rfl rfl) ?_
      refine RunL.grows rfl rfl rfl (Grows.call (vs := #[_]) rfl rfl Tryz.call12 (fun w hs => ref_Parse t w)) (fun q2 _ => ?_)
      refine RunL.still rfl rfl rfl (Still.move rfl rfl) ?_
      refine RunL.still rfl rfl rfl (Still.extractN rfl rfl rfl) ?_
      refine RunL.still rfl rfl rfl (Still.extractN rfl rfl rfl) ?_
      refine RunL.grows rfl rfl rfl (Grows.alloc rfl Tryz.zeroValue24) (fun b14 _ => ?_)
      refine RunL.does0 rfl rfl (Does.store rfl rfl rfl (i := 0) rfl Tryz.sizeOf24 rfl (rfl) rfl) (fun _ _ => ?_)
      refine RunL.still rfl rfl rfl (Still.assign rfl rfl) ?_
      refine RunL.nil ?_
      refine Ends.then ?_
      refine RunC.seq ?_
      refine RunC.draw 23 (.one 0 (.still 1 (.still 2 (.still 3 (.still 4 (.still 5 (.still 6 (.still 7 (.still 8 (.one 9 (.still 10 (.still 11 (.still 12 (.still 13 (.still 15 (.still 16 (.one 14 (.one 17 (.still 18 (.still 19 (.still 20 (.still 21 (.still 22 .done))))))))))))))))))))))) (by kernel_rfl) (by kernel_rfl) ?_
      refine RunG.grows rfl rfl rfl rfl (Grows.call (vs := #[]) rfl rfl Tryz.call13 (fun w hs => lw_sane w)) (fun _ _ => ?_)
      refine RunG.again (t := 77) (u := .bool true) rfl (rfl) ?_
      refine RunG.still rfl rfl rfl rfl (Still.move rfl rfl) ?_
      refine RunG.again (t := 78) (u := .bool true) rfl (rfl) ?_
      refine RunG.still rfl rfl rfl rfl (Still.move rfl rfl) ?_
      refine RunG.still rfl rfl rfl rfl (Still.move rfl rfl) ?_
      refine RunG.still rfl rfl rfl rfl (Still.eql rfl rfl rfl) ?_
      refine RunG.again (t := 81) (u := .bool true) rfl (congrArg Value.bool (decide_eq_true (rfl))) ?_
      refine RunG.still rfl rfl rfl rfl (Still.pickT rfl rfl rfl) ?_
      refine RunG.still rfl rfl rfl rfl (Still.move rfl rfl) ?_
      refine RunG.still rfl rfl rfl rfl (Still.loads rfl rfl Tryz.isAgg24 Tryz.sizeOf24 (vs := [_, _]) rfl (fun _ hs => cells_nth (hs.at (i := 2) rfl) ⟨rfl, ⟨rfl, trivial⟩⟩)) ?_
      refine RunG.still rfl rfl rfl rfl (Still.loads rfl rfl Tryz.isAgg24 Tryz.sizeOf24 (vs := [_, _]) rfl (fun _ hs => cells_nth (hs.at (i := 0) rfl) ⟨rfl, ⟨rfl, trivial⟩⟩)) ?_
      refine RunG.grows rfl rfl rfl rfl (Grows.call (vs := #[_, _]) rfl rfl Tryz.call11 (fun w hs => ref_Same_eq q1.1 q2.1 _ _ q1.2 q2.2 (resR t) (resR t) w (DiaAt.of_read (hs.at (i := 3) rfl)) (DiaAt.of_read (hs.at (i := 1) rfl)) rfl)) (fun _ _ => ?_)
      refine RunG.again (t := 86) (u := .bool true) rfl (rfl) ?_
      refine RunG.still rfl rfl rfl rfl (Still.pickT rfl rfl rfl) ?_
      refine RunG.still rfl rfl rfl rfl (Still.move rfl rfl) ?_
      refine RunG.still rfl rfl rfl rfl (Still.loads rfl rfl Tryz.isAgg24 Tryz.sizeOf24 (vs := [_, _]) rfl (fun _ hs => cells_nth (hs.at (i := 7) rfl) ⟨rfl, ⟨rfl, trivial⟩⟩)) ?_
      refine RunG.still rfl rfl rfl rfl (Still.loads rfl rfl Tryz.isAgg24 Tryz.sizeOf24 (vs := [_, _]) rfl (fun _ hs => cells_nth (hs.at (i := 6) rfl) ⟨rfl, ⟨rfl, trivial⟩⟩)) ?_
      refine RunG.still rfl rfl rfl rfl (Still.loads rfl rfl Tryz.isAgg24 Tryz.sizeOf24 (vs := [_, _]) rfl (fun _ hs => cells_nth (hs.at (i := 7) rfl) ⟨rfl, ⟨rfl, trivial⟩⟩)) ?_
      refine RunG.still rfl rfl rfl rfl (Still.loads rfl rfl Tryz.isAgg24 Tryz.sizeOf24 (vs := [_, _]) rfl (fun _ hs => cells_nth (hs.at (i := 6) rfl) ⟨rfl, ⟨rfl, trivial⟩⟩)) ?_
      refine RunG.grows rfl rfl rfl rfl (Grows.call (vs := #[_, _]) rfl rfl Tryz.call14 (fun w hs => dg_Same ba bb A B ca cb a b w (hda.sym hs) (hdb.sym hs))) (fun _ _ => ?_)
      refine RunG.grows rfl rfl rfl rfl (Grows.call (vs := #[_, _]) rfl rfl Tryz.call11 (fun w hs => ref_Same ba bb A B ca cb a b w (hda.sym hs) (hdb.sym hs))) (fun _ _ => ?_)
      refine RunG.still rfl rfl rfl rfl (Still.eqlB rfl rfl rfl Tryz.underlying4) ?_
      refine RunG.again (t := 95) (u := .bool true) rfl (congrArg Value.bool (beq_self_eq_true _)) ?_
      refine RunG.still rfl rfl rfl rfl (Still.pickT rfl rfl rfl) ?_
      refine RunG.still rfl rfl rfl rfl (Still.move rfl rfl) ?_
      refine RunG.still rfl rfl rfl rfl (Still.loads rfl rfl Tryz.isAgg24 Tryz.sizeOf24 (vs := [_, _]) rfl (fun _ hs => cells_nth (hs.at (i := 7) rfl) ⟨rfl, ⟨rfl, trivial⟩⟩)) ?_
      refine RunG.still rfl rfl rfl rfl (Still.loads rfl rfl Tryz.isAgg24 Tryz.sizeOf24 (vs := [_, _]) rfl (fun _ hs => cells_nth (hs.at (i := 7) rfl) ⟨rfl, ⟨rfl, trivial⟩⟩)) ?_
      refine RunG.done ?_
      show RunL _ _ _ [_, _, _] _ _
      refine RunL.grows rfl rfl rfl (Grows.call (vs := #[_, _]) rfl rfl Tryz.call14 (fun w hs => dg_Same_self ba A ca a w (hda.sym hs))) (fun _ _ => ?_)
      refine RunL.again (t := 100) (u := .bool true) rfl (rfl) ?_
      refine RunL.still rfl rfl rfl (Still.pickT rfl rfl rfl) ?_
      refine RunL.still rfl rfl rfl (Still.assign rfl rfl) ?_
      refine RunL.nil ?_
      refine Ends.then ?_
      refine RunC.ret ?_
      refine Ends.leave (.inl rfl) (fun _ _ ok => results1 Tryz.results3 (Holds.tmp rfl) ok) (fun w1 hs => ?_)
      exact Ret.intro () trivial rfl (HSub.nil _) hs

theorem lw_DiagTexts (ba : Option Addr) (A : Addr) (ca : Nat) (a : Dia) (bb : Option Addr) (B : Addr) (cb : Nat) (b : Dia) (t : ByteArray) (w : World) (he : Env w) (hda : DiaAt w ba A a) (hdb : DiaAt w bb B b) : Gives Tryz.prog 3 #[diaV ba ca a, diaV bb cb b, .string t] w Nil (fun _ : Unit => True) (fun _ => .bool true) (fun _ => []) := by
  by_cases hl : (20 < a.cross.length ∧ a.cross.length ≤ 200)
  · exact lw_DiagTexts_big ba A ca a bb B cb b t w hl
  by_cases ht : (2000 < t.size ∧ t.size ≤ 200000)
  · exact lw_DiagTexts_long ba A ca a bb B cb b t w hl ht
  by_cases hc : checkI a = 0
  · exact lw_DiagTexts_ok ba A ca a bb B cb b t w he hda hdb hl ht hc
  · exact lw_DiagTexts_bad ba A ca a bb B cb b t w he hda hdb hl ht hc

end Go.Proofs
