/- The reference: the standard numbering, its code, the order of codes. -/
import Derived.Test.YtbodmnijpdffaaaGreatDoorM1
import Derived.Test.YtbodmnijpdffaaaGreatDoorM2
import Derived.Test.YtbodmnijpdffaaaGreatDoorM3
import Derived.Test.YtbodmnijpdffaaaGreatDoorProg
import Derived.KernelRfl
import Derived.Test.YtbodmnijpdffaaaGreatDoorM0
import Derived.Shelf.SlSortCmp.Whole1
import Derived.Shelf.SlGeneric
import Derived.Shelf.Sort.Plain
import Derived.Shelf.Slices.In.SortNone
import Derived.Ground.NamesProg
import Derived.Ground.SlsfProg
namespace Go.Proofs
open Go Go.V
set_option maxRecDepth 20000
theorem ref_place (v : Value) (l : List Nat) (n : Nat) (w : World) (hv : Shape v l.length) (hc : Cells w (vaddr v) (ints (nI l))) (hl : l.length ≤ 1000) (hm : n ∈ l) : Gives Tryz.prog 89 #[v, iv n] w Nil (fun _ : Unit => True) (fun _ => iv (posN l n : Nat)) (fun _ => []) := by
  have hnl := nI_len l
  refine fn_of_run (S := Nil) (args := [v, iv n]) (n := 19) (L := []) Tryz.func89 rfl Tryz.ntmps89 (Nat.le_of_ble_eq_true rfl) (Sym.nil _ _) ?_
  change RunC _ _ _ [(0, _), (1, _)] _
  refine RunC.seq ?_
  refine RunC.region ?_
  refine RunL.still rfl rfl rfl (Still.assign rfl rfl) ?_
  refine RunL.nil ?_
  refine Ends.then ?_
  refine RunC.seq ?_
  refine RunC.seq ?_
  refine RunC.region ?_
  refine RunL.still rfl rfl rfl (Still.assign rfl rfl) ?_
  refine RunL.nil ?_
  refine Ends.then ?_
  refine RunC.block ?_
  refine RunC.loop2 (γ := Nat) (keep := [(0, _), (1, _)]) (hkeep := []) (fun i => i ≤ l.length ∧ ∀ j, j < i → l[j]? ≠ some n) (fun i => l.length - i) (fun i => [(5, iv i)]) (fun i => []) 0 ⟨by omega, fun j h => by omega⟩ (Fr.Sub.cons rfl (Fr.Sub.nil _)) (Fr.Sub.cons rfl (Fr.Sub.cons rfl (Fr.Sub.nil _))) (HSub.nil _) ?_
  rintro i ⟨hi, he⟩
  refine RunC.seq ?_
  refine RunC.seq ?_
  refine RunC.region ?_
  refine RunL.still rfl rfl rfl (Still.move rfl rfl) ?_
  refine RunL.still rfl rfl rfl (Still.move rfl rfl) ?_
  refine RunL.still rfl rfl rfl (Still.lenV rfl rfl Tryz.underlying36 ((show Shape v (nI l).length by rw [nI_len]; exact hv))) ?_
  refine RunL.still rfl rfl rfl (Still.lss rfl rfl rfl) ?_
  refine RunL.nil ?_
  refine Ends.then ?_
  refine RunC.cond rfl (fun h9 => ?_) (fun h9 => ?_)
  · have h9 := of_decide_eq_true h9
    obtain ⟨x, hx⟩ := get_of_lt (l := l) (i := i) (by omega)
    refine RunC.skip ?_
    refine Ends.then ?_
    refine RunC.seq ?_
    refine RunC.block ?_
    refine RunC.seq ?_
    refine RunC.region ?_
    refine RunL.still rfl rfl rfl (Still.move rfl rfl) ?_
    refine RunL.still rfl rfl rfl (Still.move rfl rfl) ?_
    refine RunL.still rfl rfl rfl (Still.indexV _ rfl rfl rfl Tryz.underlying36 Tryz.sizeOf3 ((show Shape v (nI l).length by rw [nI_len]; exact hv)) (rfl) (by omega)) ?_
    refine RunL.still rfl rfl rfl (Still.load rfl rfl Tryz.isAgg3 (fun _ hs => cells_at (Cells.base0 hc hs) (ints_get (nI_get hx)))) ?_
    refine RunL.still rfl rfl rfl (Still.move rfl rfl) ?_
    refine RunL.still rfl rfl rfl (Still.eql rfl rfl rfl) ?_
    refine RunL.nil ?_
    refine Ends.then ?_
    refine RunC.cond rfl (fun h17 => ?_) (fun h17 => ?_)
    · have h17 := of_decide_eq_true h17
      refine RunC.seq ?_
      refine RunC.region ?_
      refine RunL.still rfl rfl rfl (Still.move rfl rfl) ?_
      refine RunL.still rfl rfl rfl (Still.assign rfl rfl) ?_
      refine RunL.nil ?_
      refine Ends.then ?_
      refine RunC.ret ?_
      refine Ends.block_ret ?_
      refine Ends.then_ret ?_
      refine Ends.then_ret ?_
      refine Ends.block_ret ?_
      refine Ends.then_ret ?_
      refine Ends.leave (.inl rfl) (fun _ _ ok => results1 Tryz.results89 (Holds.tmp rfl) ok) (fun w1 hs => ?_)
      exact Ret.intro () trivial (congrArg iv (congrArg Nat.cast (posN_first (l := l) (i := i) (n := n) (by rw [hx]; congr 1; omega) he).symm)) (HSub.nil _) hs
    · have h17 := of_decide_eq_false h17
      refine RunC.skip ?_
      refine Ends.block ?_
      refine Ends.then ?_
      refine RunC.region ?_
      refine RunL.still rfl rfl rfl (Still.move rfl rfl) ?_
      refine RunL.still rfl rfl rfl (Still.add rfl rfl rfl (fits64 (by omega) (by omega))) ?_
      refine RunL.still rfl rfl rfl (Still.assign rfl rfl) ?_
      refine RunL.nil ?_
      refine Ends.again (i + 1) ?_ ?_ (Fr.Sub.app ?_ ?_) ?_
      · exact ⟨by omega, fun j h => by rcases Nat.lt_or_ge j i with h2 | h2; exact he j h2; obtain rfl : j = i := (by omega); rw [hx]; intro e; cases e; exact h17 rfl⟩
      · show _ < _; omega
      · exact Fr.Sub.cons rfl (Fr.Sub.nil _)
      · exact Fr.Sub.cons rfl (Fr.Sub.cons rfl (Fr.Sub.nil _))
      · exact HSub.nil _
  · have h9 := of_decide_eq_false h9
    obtain ⟨k, hk⟩ := List.getElem?_of_mem hm
    exact absurd hk (he k (by have := (List.getElem?_eq_some_iff.1 hk).1; omega))
    skip

theorem ref_code (v : Value) (l : List Cr) (w : World) (hv : Shape v l.length) (hc : Cells w (vaddr v) (l.flatMap encCr)) (hl : l.length ≤ 200) : Gives Tryz.prog 93 #[v] w Nil (fun _ : Value => True) (fun u => u) (fun u => [HL.own 3 1 u (5 * l.length) (ints (l.flatMap rowL))]) := by
  refine fn_of_run (S := Nil) (args := [v]) (n := 35) (L := []) Tryz.func93 rfl Tryz.ntmps93 (Nat.le_of_ble_eq_true rfl) (Sym.nil _ _) ?_
  change RunC _ _ _ [(0, _)] _
  refine RunC.seq ?_
  refine RunC.region ?_
  refine RunL.still rfl rfl rfl (Still.assign rfl rfl) ?_
  refine RunL.nil ?_
  refine Ends.then ?_
  refine RunC.seq ?_
  refine RunC.region ?_
  refine RunL.grows rfl rfl rfl (Grows.empty rfl Tryz.underlying36 Tryz.sizeOf3 Tryz.zeroValue3) (fun b6 _ => ?_)
  refine RunL.still rfl rfl rfl (Still.assign rfl rfl) ?_
  refine RunL.nil ?_
  refine Ends.then ?_
  refine RunC.seq ?_
  refine RunC.seq ?_
  refine RunC.region ?_
  refine RunL.still rfl rfl rfl (Still.assign rfl rfl) ?_
  refine RunL.nil ?_
  refine Ends.then ?_
  refine RunC.block ?_
  refine RunC.loop2 (γ := Value × Nat) (keep := [(0, _)]) (hkeep := []) (fun (u, i) => i ≤ l.length) (fun (u, i) => l.length - i) (fun (u, i) => [(3, u), (4, iv i)]) (fun (u, i) => [HL.own 3 1 u (5 * i) (ints ((l.take i).flatMap rowL))]) (.slice (some ⟨b6, 0, none⟩) 0 0, 0) (Nat.zero_le _) (Fr.Sub.cons rfl (Fr.Sub.cons rfl (Fr.Sub.nil _))) (Fr.Sub.cons rfl (Fr.Sub.nil _)) (HSub.pick 0 rfl (HSub.nil _)) ?_
  rintro ⟨u, i⟩ hi
  have hi : i ≤ l.length := hi
  refine RunC.seq ?_
  refine RunC.seq ?_
  refine RunC.region ?_
  refine RunL.still rfl rfl rfl (Still.move rfl rfl) ?_
  refine RunL.still rfl rfl rfl (Still.move rfl rfl) ?_
  refine RunL.still rfl rfl rfl (Still.lenV rfl rfl Tryz.underlying22 (hv)) ?_
  refine RunL.still rfl rfl rfl (Still.lss rfl rfl rfl) ?_
  refine RunL.nil ?_
  refine Ends.then ?_
  refine RunC.cond rfl (fun h10 => ?_) (fun h10 => ?_)
  · have h10 := of_decide_eq_true h10
    obtain ⟨x, hx⟩ := get_of_lt (l := l) (i := i) (by omega)
    refine RunC.skip ?_
    refine Ends.then ?_
    refine RunC.seq ?_
    refine RunC.block ?_
    refine RunC.seq ?_
    refine RunC.region ?_
    refine RunL.still rfl rfl rfl (Still.move rfl rfl) ?_
    refine RunL.still rfl rfl rfl (Still.move rfl rfl) ?_
    refine RunL.still rfl rfl rfl (Still.indexV _ rfl rfl rfl Tryz.underlying22 Tryz.sizeOf62 (hv) (rfl) (by omega)) ?_
    refine RunL.still rfl rfl rfl (Still.loads rfl rfl Tryz.isAgg62 Tryz.sizeOf62 (vs := encCr x) rfl (fun _ hs => cells_part (Cells.base0 hc hs) (fun j u h => flat_get encCr_len hx h))) ?_
    refine RunL.grows rfl rfl rfl (Grows.alloc rfl Tryz.zeroValue62) (fun b5 _ => ?_)
    refine RunL.does0 rfl rfl (Does.store rfl rfl rfl (i := 0) rfl Tryz.sizeOf62 rfl (rfl) rfl) (fun _ _ => ?_)
    refine RunL.conv (fun _ hs => hs.re 0 rfl (show _ = HL.obj b5 (.cells #[iv x.a0, iv x.a1, iv x.a2, iv x.a3, iv x.s] 62 (0, 0)) from rfl)) ?_
    refine RunL.nil ?_
    refine Ends.then ?_
    refine RunC.region ?_
    refine RunL.still rfl rfl rfl (Still.move rfl rfl) ?_
    refine RunL.still rfl rfl rfl (Still.fieldAddrL (off := 0) (off' := 0) rfl rfl Tryz.underlying62 rfl Tryz.sizeOf60 rfl) ?_
    refine RunL.still rfl rfl rfl (Still.indexArrEL 0 rfl rfl rfl Tryz.underlying60 Tryz.sizeOf3 (rfl) (by omega)) ?_
    refine RunL.still rfl rfl rfl (Still.load (v := iv x.a0) rfl rfl Tryz.isAgg3 (fun _ hs => cell_nth (hs.at (i := 0) rfl) rfl)) ?_
    refine RunL.still rfl rfl rfl (Still.fieldAddrL (off := 0) (off' := 0) rfl rfl Tryz.underlying62 rfl Tryz.sizeOf60 rfl) ?_
    refine RunL.still rfl rfl rfl (Still.indexArrEL 1 rfl rfl rfl Tryz.underlying60 Tryz.sizeOf3 (rfl) (by omega)) ?_
    refine RunL.still rfl rfl rfl (Still.load (v := iv x.a1) rfl rfl Tryz.isAgg3 (fun _ hs => cell_nth (hs.at (i := 0) rfl) rfl)) ?_
    refine RunL.still rfl rfl rfl (Still.fieldAddrL (off := 0) (off' := 0) rfl rfl Tryz.underlying62 rfl Tryz.sizeOf60 rfl) ?_
    refine RunL.still rfl rfl rfl (Still.indexArrEL 2 rfl rfl rfl Tryz.underlying60 Tryz.sizeOf3 (rfl) (by omega)) ?_
    refine RunL.still rfl rfl rfl (Still.load (v := iv x.a2) rfl rfl Tryz.isAgg3 (fun _ hs => cell_nth (hs.at (i := 0) rfl) rfl)) ?_
    refine RunL.still rfl rfl rfl (Still.fieldAddrL (off := 0) (off' := 0) rfl rfl Tryz.underlying62 rfl Tryz.sizeOf60 rfl) ?_
    refine RunL.still rfl rfl rfl (Still.indexArrEL 3 rfl rfl rfl Tryz.underlying60 Tryz.sizeOf3 (rfl) (by omega)) ?_
    refine RunL.still rfl rfl rfl (Still.load (v := iv x.a3) rfl rfl Tryz.isAgg3 (fun _ hs => cell_nth (hs.at (i := 0) rfl) rfl)) ?_
    refine RunL.still rfl rfl rfl (Still.fieldAddrL (off := 0) (off' := 4) rfl rfl Tryz.underlying62 rfl Tryz.sizeOf3 rfl) ?_
    refine RunL.still rfl rfl rfl (Still.load (v := iv x.s) rfl rfl Tryz.isAgg3 (fun _ hs => cell_nth (hs.at (i := 0) rfl) rfl)) ?_
    refine RunL.grows rfl rfl rfl (Grows.buildSlice (vs := #[(0, _), (1, _), (2, _), (3, _), (4, _)]) (cells := #[iv x.a0, iv x.a1, iv x.a2, iv x.a3, iv x.s]) rfl rfl Tryz.underlying36 Tryz.sizeOf3 Tryz.zeroValue3 (by decide) (by kernel_rfl)) (fun b32 _ => ?_)
    refine RunL.does rfl rfl rfl (Does.appendTo (n' := (5 * (i + 1))) (xs' := (ints ((l.take (i + 1)).flatMap rowL))) (news := [iv x.a0, iv x.a1, iv x.a2, iv x.a3, iv x.s]) rfl rfl rfl rfl (i := 2) rfl Tryz.underlying36 (by kernel_rfl : (_ : Option _) = some (some (.int .i64 0), 1, 8)) rfl rfl (fun _ hs => cells_nth (hs.at (i := 0) rfl) ⟨rfl, ⟨rfl, ⟨rfl, ⟨rfl, ⟨rfl, trivial⟩⟩⟩⟩⟩) rfl rfl (by omega) (by omega) ((by omega)) ((by rw [List.take_add_one, hx]; simp [ints, ints.iv', rowL]))) (fun v33 hv33 => ?_)
    refine RunL.still rfl rfl rfl (Still.assign rfl rfl) ?_
    refine RunL.nil ?_
    refine Ends.block ?_
    refine Ends.then ?_
    refine RunC.region ?_
    refine RunL.still rfl rfl rfl (Still.move rfl rfl) ?_
    refine RunL.still rfl rfl rfl (Still.add rfl rfl rfl (fits64 (by omega) (by omega))) ?_
    refine RunL.still rfl rfl rfl (Still.assign rfl rfl) ?_
    refine RunL.nil ?_
    refine Ends.again (v33, i + 1) ?_ ?_ (Fr.Sub.app ?_ ?_) ?_
    · show i + 1 ≤ _; omega
    · show _ - (i + 1) < _ - i; omega
    · exact Fr.Sub.cons rfl (Fr.Sub.cons rfl (Fr.Sub.nil _))
    · exact Fr.Sub.cons rfl (Fr.Sub.nil _)
    · exact HSub.pick 2 rfl (HSub.nil _)
  · have h10 := of_decide_eq_false h10
    obtain rfl : i = l.length := by omega
    refine RunC.exit ?_
    refine Ends.then_exit ?_
    refine Ends.then_exit ?_
    refine Ends.block_exit ?_
    refine Ends.then ?_
    refine RunC.seq ?_
    refine RunC.region ?_
    refine RunL.still rfl rfl rfl (Still.move rfl rfl) ?_
    refine RunL.still rfl rfl rfl (Still.assign rfl rfl) ?_
    refine RunL.nil ?_
    refine Ends.then ?_
    refine RunC.ret ?_
    refine Ends.leave (.inl rfl) (fun _ _ ok => results1 Tryz.results93 (Holds.tmp rfl) ok) (fun w1 hs => ?_)
    rw [show l.flatMap rowL = (l.take l.length).flatMap rowL by rw [List.take_length]]
    exact Ret.intro u trivial rfl (HSub.pick 0 rfl (HSub.nil _)) hs

theorem ref_Less (u v : Value) (a b : List Cr) (w : World) (hu : Shape u a.length) (hv : Shape v b.length) (hc : Cells w (vaddr u) (a.flatMap encCr)) (hd : Cells w (vaddr v) (b.flatMap encCr)) (ha : a.length ≤ 200) (hb : b.length ≤ 200) : Gives Tryz.prog 54 #[u, v] w Nil (fun _ : Unit => True) (fun _ => .bool (ltB a b)) (fun _ => []) := by
  have hra := rows_len a
  have hrb := rows_len b
  refine fn_of_run (S := Nil) (args := [u, v]) (n := 46) (L := []) Tryz.func54 rfl Tryz.ntmps54 (Nat.le_of_ble_eq_true rfl) (Sym.nil _ _) ?_
  change RunC _ _ _ [(0, _), (1, _)] _
  refine RunC.seq ?_
  refine RunC.region ?_
  refine RunL.still rfl rfl rfl (Still.assign rfl rfl) ?_
  refine RunL.nil ?_
  refine Ends.then ?_
  refine RunC.seq ?_
  refine RunC.seq ?_
  refine RunC.region ?_
  refine RunL.still rfl rfl rfl (Still.move rfl rfl) ?_
  refine RunL.still rfl rfl rfl (Still.lenV rfl rfl Tryz.underlying22 (hu)) ?_
  refine RunL.still rfl rfl rfl (Still.move rfl rfl) ?_
  refine RunL.still rfl rfl rfl (Still.lenV rfl rfl Tryz.underlying22 (hv)) ?_
  refine RunL.still rfl rfl rfl (Still.neq rfl rfl rfl) ?_
  refine RunL.nil ?_
  refine Ends.then ?_
  refine RunC.cond rfl (fun h12 => ?_) (fun h12 => ?_)
  · have h12 := of_decide_eq_true h12
    refine RunC.seq ?_
    refine RunC.region ?_
    refine RunL.still rfl rfl rfl (Still.move rfl rfl) ?_
    refine RunL.still rfl rfl rfl (Still.lenV rfl rfl Tryz.underlying22 (hu)) ?_
    refine RunL.still rfl rfl rfl (Still.move rfl rfl) ?_
    refine RunL.still rfl rfl rfl (Still.lenV rfl rfl Tryz.underlying22 (hv)) ?_
    refine RunL.still rfl rfl rfl (Still.lss rfl rfl rfl) ?_
    refine RunL.still rfl rfl rfl (Still.assign rfl rfl) ?_
    refine RunL.nil ?_
    refine Ends.then ?_
    refine RunC.ret ?_
    refine Ends.then_ret ?_
    refine Ends.leave (.inl rfl) (fun _ _ ok => results1 Tryz.results54 (Holds.tmp rfl) ok) (fun w1 hs => ?_)
    exact Ret.intro () trivial (congrArg Value.bool (ltB_of (ltC_len (by omega)))) (HSub.nil _) hs
  · have h12 := of_decide_eq_false h12
    refine RunC.skip ?_
    refine Ends.then ?_
    refine RunC.seq ?_
    refine RunC.region ?_
    refine RunL.still rfl rfl rfl (Still.move rfl rfl) ?_
    refine RunL.grows rfl rfl rfl (Grows.call (vs := #[_]) rfl rfl Tryz.call93 (fun w hs => ref_code u a w hu (Cells.base0 hc hs) ha)) (fun v19 _ => ?_)
    refine RunL.still rfl rfl rfl (Still.move rfl rfl) ?_
    refine RunL.grows rfl rfl rfl (Grows.call (vs := #[_]) rfl rfl Tryz.call93 (fun w hs => ref_code v b w hv (Cells.base0 hd hs) hb)) (fun v21 _ => ?_)
    refine RunL.still rfl rfl rfl (Still.assign rfl rfl) ?_
    refine RunL.still rfl rfl rfl (Still.assign rfl rfl) ?_
    refine RunL.nil ?_
    refine Ends.then ?_
    refine RunC.seq ?_
    refine RunC.seq ?_
    refine RunC.region ?_
    refine RunL.still rfl rfl rfl (Still.assign rfl rfl) ?_
    refine RunL.nil ?_
    refine Ends.then ?_
    refine RunC.block ?_
    refine RunC.loop2 (γ := Nat) (keep := [(5, _), (6, _)]) (hkeep := [_, _]) (fun i => i ≤ 5 * a.length ∧ ∀ j, j < i → (a.flatMap rowL)[j]? = (b.flatMap rowL)[j]?) (fun i => 5 * a.length - i) (fun i => [(7, iv i)]) (fun i => []) 0 ⟨by omega, fun j h => by omega⟩ (Fr.Sub.cons rfl (Fr.Sub.nil _)) (Fr.Sub.cons rfl (Fr.Sub.cons rfl (Fr.Sub.nil _))) (HSub.pick 0 rfl (HSub.pick 0 rfl (HSub.nil _))) ?_
    rintro i ⟨hi, he⟩
    refine RunC.seq ?_
    refine RunC.seq ?_
    refine RunC.region ?_
    refine RunL.still rfl rfl rfl (Still.move rfl rfl) ?_
    refine RunL.still rfl rfl rfl (Still.move rfl rfl) ?_
    refine RunL.still rfl rfl rfl (Still.lenOwn rfl rfl Tryz.underlying36 (fun _ hs => hs.own (i := 1) rfl)) ?_
    refine RunL.still rfl rfl rfl (Still.lss rfl rfl rfl) ?_
    refine RunL.nil ?_
    refine Ends.then ?_
    refine RunC.cond rfl (fun h25 => ?_) (fun h25 => ?_)
    · have h25 := of_decide_eq_true h25
      obtain ⟨p, hp⟩ := get_of_lt (l := a.flatMap rowL) (i := i) (by omega)
      obtain ⟨q, hq⟩ := get_of_lt (l := b.flatMap rowL) (i := i) (by omega)
      refine RunC.skip ?_
      refine Ends.then ?_
      refine RunC.seq ?_
      refine RunC.block ?_
      refine RunC.seq ?_
      refine RunC.draw 8 (.still 0 (.still 1 (.still 2 (.still 3 (.still 4 (.still 5 (.still 6 (.still 7 .done)))))))) (by kernel_rfl) (by kernel_rfl) ?_
      refine RunG.still rfl rfl rfl rfl (Still.move rfl rfl) ?_
      refine RunG.still rfl rfl rfl rfl (Still.move rfl rfl) ?_
      refine RunG.still rfl rfl rfl rfl (Still.indexOwn rfl rfl rfl Tryz.underlying36 Tryz.sizeOf3 (fun _ hs => hs.own (i := 1) rfl) (by omega)) ?_
      refine RunG.still rfl rfl rfl rfl (Still.load rfl rfl Tryz.isAgg3 (fun w hs => own_at (hs.own (i := 1) rfl) (ints_get hp))) ?_
      refine RunG.still rfl rfl rfl rfl (Still.move rfl rfl) ?_
      refine RunG.still rfl rfl rfl rfl (Still.move rfl rfl) ?_
      refine RunG.still rfl rfl rfl rfl (Still.indexOwn rfl rfl rfl Tryz.underlying36 Tryz.sizeOf3 (fun _ hs => hs.own (i := 0) rfl) (by omega)) ?_
      refine RunG.still rfl rfl rfl rfl (Still.load rfl rfl Tryz.isAgg3 (fun w hs => own_at (hs.own (i := 0) rfl) (ints_get hq))) ?_
      refine RunG.done ?_
      show RunL _ _ _ [_] _ _
      refine RunL.still rfl rfl rfl (Still.neq rfl rfl rfl) ?_
      refine RunL.nil ?_
      refine Ends.then ?_
      refine RunC.cond rfl (fun h36 => ?_) (fun h36 => ?_)
      · have h36 := of_decide_eq_true h36
        refine RunC.seq ?_
        refine RunC.draw 9 (.still 0 (.still 1 (.still 2 (.still 3 (.still 4 (.still 5 (.still 6 (.still 7 (.still 8 .done))))))))) (by kernel_rfl) (by kernel_rfl) ?_
        refine RunG.still rfl rfl rfl rfl (Still.move rfl rfl) ?_
        refine RunG.still rfl rfl rfl rfl (Still.move rfl rfl) ?_
        refine RunG.still rfl rfl rfl rfl (Still.indexOwn rfl rfl rfl Tryz.underlying36 Tryz.sizeOf3 (fun _ hs => hs.own (i := 1) rfl) (by omega)) ?_
        refine RunG.still rfl rfl rfl rfl (Still.load rfl rfl Tryz.isAgg3 (fun w hs => own_at (hs.own (i := 1) rfl) (ints_get hp))) ?_
        refine RunG.still rfl rfl rfl rfl (Still.move rfl rfl) ?_
        refine RunG.still rfl rfl rfl rfl (Still.move rfl rfl) ?_
        refine RunG.still rfl rfl rfl rfl (Still.indexOwn rfl rfl rfl Tryz.underlying36 Tryz.sizeOf3 (fun _ hs => hs.own (i := 0) rfl) (by omega)) ?_
        refine RunG.still rfl rfl rfl rfl (Still.load rfl rfl Tryz.isAgg3 (fun w hs => own_at (hs.own (i := 0) rfl) (ints_get hq))) ?_
        refine RunG.still rfl rfl rfl rfl (Still.lss rfl rfl rfl) ?_
        refine RunG.done ?_
        show RunL _ _ _ [_] _ _
        refine RunL.still rfl rfl rfl (Still.assign rfl rfl) ?_
        refine RunL.nil ?_
        refine Ends.then ?_
        refine RunC.ret ?_
        refine Ends.block_ret ?_
        refine Ends.then_ret ?_
        refine Ends.then_ret ?_
        refine Ends.block_ret ?_
        refine Ends.then_ret ?_
        refine Ends.leave (.inl rfl) (fun _ _ ok => results1 Tryz.results54 (Holds.tmp rfl) ok) (fun w2 hs => ?_)
        exact Ret.intro () trivial (congrArg Value.bool (ltB_of ((ltC_flat (by omega)).trans (lx_at he hp hq (by omega))))) (HSub.nil _) hs
      · have h36 := of_decide_eq_false h36
        refine RunC.skip ?_
        refine Ends.block ?_
        refine Ends.then ?_
        refine RunC.region ?_
        refine RunL.still rfl rfl rfl (Still.move rfl rfl) ?_
        refine RunL.still rfl rfl rfl (Still.add rfl rfl rfl (fits64 (by omega) (by omega))) ?_
        refine RunL.still rfl rfl rfl (Still.assign rfl rfl) ?_
        refine RunL.nil ?_
        refine Ends.again (i + 1) ?_ ?_ (Fr.Sub.app ?_ ?_) ?_
        · exact ⟨by omega, fun j h => by rcases Nat.lt_or_ge j i with h2 | h2; exact he j h2; obtain rfl : j = i := (by omega); rw [hp, hq]; congr 1; omega⟩
        · show _ < _; omega
        · exact Fr.Sub.cons rfl (Fr.Sub.nil _)
        · exact Fr.Sub.cons rfl (Fr.Sub.cons rfl (Fr.Sub.nil _))
        · exact HSub.pick 0 rfl (HSub.pick 0 rfl (HSub.nil _))
    · have h25 := of_decide_eq_false h25
      refine RunC.exit ?_
      refine Ends.then_exit ?_
      refine Ends.then_exit ?_
      refine Ends.block_exit ?_
      refine Ends.then ?_
      refine RunC.seq ?_
      refine RunC.region ?_
      refine RunL.still rfl rfl rfl (Still.assign rfl rfl) ?_
      refine RunL.nil ?_
      refine Ends.then ?_
      refine RunC.ret ?_
      refine Ends.leave (.inl rfl) (fun _ _ ok => results1 Tryz.results54 (Holds.tmp rfl) ok) (fun w3 hs => ?_)
      exact Ret.intro () trivial (congrArg Value.bool (ltB_not.2 (fun e => lx_irrefl _ (by have := (ltC_flat (by omega)).1 e; rwa [show a.flatMap rowL = b.flatMap rowL from List.ext_getElem? fun j => by rcases Nat.lt_or_ge j i with h | h; exact he j h; rw [List.getElem?_eq_none (by omega), List.getElem?_eq_none (by omega)]] at this))).symm) (HSub.nil _) hs

theorem ref_out {d : Dia} (hS : SoundP d) {c : Nat} (hc : c < d.cross.length) (k : Nat) (w : World) : Gives Tryz.prog 91 #[crV (crAt d c), iv k] w Nil (fun _ : Unit => True) (fun _ => iv (outN (crAt d c) k : Nat)) (fun _ => []) := by
  have hsg := hS.sgn hc
  have hoi := outI hS hc k
  refine fn_of_run (S := Nil) (args := [crV (crAt d c), iv k]) (n := 19) (L := []) Tryz.func91 rfl Tryz.ntmps91 (Nat.le_of_ble_eq_true rfl) (Sym.nil _ _) ?_
  change RunC _ _ _ [(0, _), (1, _)] _
  refine RunC.seq ?_
  refine RunC.region ?_
  refine RunL.grows rfl rfl rfl (Grows.box rfl rfl) (fun b2 _ => ?_)
  refine RunL.still rfl rfl rfl (Still.assign rfl rfl) ?_
  refine RunL.nil ?_
  refine Ends.then ?_
  refine RunC.seq ?_
  refine RunC.seq ?_
  refine RunC.region ?_
  refine RunL.still rfl rfl rfl (Still.move rfl rfl) ?_
  refine RunL.still rfl rfl rfl (Still.eql rfl rfl rfl) ?_
  refine RunL.nil ?_
  refine Ends.then ?_
  refine RunC.cond rfl (fun h6 => ?_) (fun h6 => ?_)
  · have h6 := of_decide_eq_true h6
    refine RunC.seq ?_
    refine RunC.region ?_
    refine RunL.still rfl rfl rfl (Still.fieldAddrL (off := 0) (off' := 0) rfl rfl Tryz.underlying62 rfl Tryz.sizeOf60 rfl) ?_
    refine RunL.still rfl rfl rfl (Still.indexArrEL 2 rfl rfl rfl Tryz.underlying60 Tryz.sizeOf3 (rfl) (by omega)) ?_
    refine RunL.still rfl rfl rfl (Still.load (v := iv (crAt d c).a2) rfl rfl Tryz.isAgg3 (fun _ hs => cell_nth (hs.at (i := 0) rfl) rfl)) ?_
    refine RunL.still rfl rfl rfl (Still.assign rfl rfl) ?_
    refine RunL.nil ?_
    refine Ends.then ?_
    refine RunC.ret ?_
    refine Ends.then_ret ?_
    refine Ends.leave (.inl rfl) (fun _ _ ok => results1 Tryz.results91 (Holds.tmp rfl) ok) (fun w1 hs => ?_)
    exact Ret.intro () trivial (congrArg iv (by rw [hoi, if_pos (by omega)])) (HSub.nil _) hs
  · have h6 := of_decide_eq_false h6
    refine RunC.skip ?_
    refine Ends.then ?_
    refine RunC.seq ?_
    refine RunC.seq ?_
    refine RunC.region ?_
    refine RunL.still rfl rfl rfl (Still.fieldAddrL (off := 0) (off' := 4) rfl rfl Tryz.underlying62 rfl Tryz.sizeOf3 rfl) ?_
    refine RunL.still rfl rfl rfl (Still.load (v := iv (crAt d c).s) rfl rfl Tryz.isAgg3 (fun _ hs => cell_nth (hs.at (i := 0) rfl) rfl)) ?_
    refine RunL.still rfl rfl rfl (Still.gtr rfl rfl rfl) ?_
    refine RunL.nil ?_
    refine Ends.then ?_
    refine RunC.cond rfl (fun h12 => ?_) (fun h12 => ?_)
    · have h12 := of_decide_eq_true h12
      refine RunC.seq ?_
      refine RunC.region ?_
      refine RunL.still rfl rfl rfl (Still.fieldAddrL (off := 0) (off' := 0) rfl rfl Tryz.underlying62 rfl Tryz.sizeOf60 rfl) ?_
      refine RunL.still rfl rfl rfl (Still.indexArrEL 1 rfl rfl rfl Tryz.underlying60 Tryz.sizeOf3 (rfl) (by omega)) ?_
      refine RunL.still rfl rfl rfl (Still.load (v := iv (crAt d c).a1) rfl rfl Tryz.isAgg3 (fun _ hs => cell_nth (hs.at (i := 0) rfl) rfl)) ?_
      refine RunL.still rfl rfl rfl (Still.assign rfl rfl) ?_
      refine RunL.nil ?_
      refine Ends.then ?_
      refine RunC.ret ?_
      refine Ends.then_ret ?_
      refine Ends.leave (.inl rfl) (fun _ _ ok => results1 Tryz.results91 (Holds.tmp rfl) ok) (fun w2 hs => ?_)
      exact Ret.intro () trivial (congrArg iv (by rw [hoi, if_neg (by omega), if_pos (by omega)])) (HSub.nil _) hs
    · have h12 := of_decide_eq_false h12
      refine RunC.skip ?_
      refine Ends.then ?_
      refine RunC.seq ?_
      refine RunC.region ?_
      refine RunL.still rfl rfl rfl (Still.fieldAddrL (off := 0) (off' := 0) rfl rfl Tryz.underlying62 rfl Tryz.sizeOf60 rfl) ?_
      refine RunL.still rfl rfl rfl (Still.indexArrEL 3 rfl rfl rfl Tryz.underlying60 Tryz.sizeOf3 (rfl) (by omega)) ?_
      refine RunL.still rfl rfl rfl (Still.load (v := iv (crAt d c).a3) rfl rfl Tryz.isAgg3 (fun _ hs => cell_nth (hs.at (i := 0) rfl) rfl)) ?_
      refine RunL.still rfl rfl rfl (Still.assign rfl rfl) ?_
      refine RunL.nil ?_
      refine Ends.then ?_
      refine RunC.ret ?_
      refine Ends.leave (.inl rfl) (fun _ _ ok => results1 Tryz.results91 (Holds.tmp rfl) ok) (fun w3 hs => ?_)
      exact Ret.intro () trivial (congrArg iv (by rw [hoi, if_neg (by omega), if_neg (by omega)])) (HSub.nil _) hs

theorem ref_cross (sb : Nat) (cv av : Value) (l : List Nat) (c : Nat) (w : World) (hs0 : Sym w (SK [HL.obj sb (.cells #[cv, av] 96 (0, 0)), HL.own 3 1 cv l.length (ints (nI l))]) [HL.obj sb (.cells #[cv, av] 96 (0, 0)), HL.own 3 1 cv l.length (ints (nI l))] w) (hlen : l.length ≤ 1000) : Gives Tryz.prog 124 #[ptrV sb, iv c] w (SK [HL.obj sb (.cells #[cv, av] 96 (0, 0)), HL.own 3 1 cv l.length (ints (nI l))]) (fun _ : Value => True) (fun _ => .tuple #[]) (fun v => [HL.obj sb (.cells #[v, av] 96 (0, 0)), HL.own 3 1 v (nbAdd l c).length (ints (nI (nbAdd l c)))]) := by
  have hnl := nI_len l
  refine fn_of_run (S := (SK [HL.obj sb (.cells #[cv, av] 96 (0, 0)), HL.own 3 1 cv l.length (ints (nI l))])) (args := [ptrV sb, iv c]) (n := 21) (L := [HL.obj sb (.cells #[cv, av] 96 (0, 0)), HL.own 3 1 cv l.length (ints (nI l))]) Tryz.func124 rfl Tryz.ntmps124 (Nat.le_of_ble_eq_true rfl) hs0 ?_
  change RunC _ _ _ [(0, _), (1, _)] _
  refine RunC.seq ?_
  refine RunC.region ?_
  refine RunL.still rfl rfl rfl (Still.move rfl rfl) ?_
  refine RunL.still rfl rfl rfl (Still.nilCheck rfl rfl) ?_
  refine RunL.still rfl rfl rfl (Still.fieldAddrL (off := 0) (off' := 0) rfl rfl Tryz.underlying96 rfl Tryz.sizeOf36 rfl) ?_
  refine RunL.still rfl rfl rfl (Still.load rfl rfl Tryz.isAgg36 (fun _ hs => cell_nth (hs.at (i := 0) rfl) rfl)) ?_
  refine RunL.still rfl rfl rfl (Still.move rfl rfl) ?_
  refine RunL.grows rfl rfl rfl (Grows.call (vs := #[_, _]) rfl rfl Tryz.call92 (fun w hs => ref_contains cv (nI l) c w (show Shape _ (nI l).length by rw [nI_len]; exact own_shape (hs.own (i := 1) rfl)) (own_all (hs.own (i := 1) rfl)) (by omega))) (fun _ _ => ?_)
  refine RunL.still rfl rfl rfl (Still.not rfl rfl) ?_
  refine RunL.nil ?_
  refine Ends.then ?_
  refine RunC.cond rfl (fun h10 => ?_) (fun h10 => ?_)
  · have h10 : c ∉ l := by have h := h10; simpa [nI_mem] using h
    refine RunC.region ?_
    refine RunL.still rfl rfl rfl (Still.move rfl rfl) ?_
    refine RunL.still rfl rfl rfl (Still.move rfl rfl) ?_
    refine RunL.still rfl rfl rfl (Still.nilCheck rfl rfl) ?_
    refine RunL.still rfl rfl rfl (Still.fieldAddrL (off := 0) (off' := 0) rfl rfl Tryz.underlying96 rfl Tryz.sizeOf36 rfl) ?_
    refine RunL.still rfl rfl rfl (Still.load rfl rfl Tryz.isAgg36 (fun _ hs => cell_nth (hs.at (i := 0) rfl) rfl)) ?_
    refine RunL.still rfl rfl rfl (Still.move rfl rfl) ?_
    refine RunL.grows rfl rfl rfl (Grows.slice1 rfl rfl Tryz.underlying36 Tryz.sizeOf3 rfl Tryz.zeroValue3 (by decide)) (fun b17 _ => ?_)
    refine RunL.does rfl rfl rfl (Does.appendTo (n' := (l.length + 1)) (xs' := (ints (nI (l ++ [c])))) (news := [_]) rfl rfl rfl rfl (i := 2) rfl Tryz.underlying36 (by kernel_rfl : (_ : Option _) = some (some (.int .i64 0), 1, 8)) rfl rfl (fun _ hs => cells_nth (hs.at (i := 0) rfl) ⟨rfl, trivial⟩) rfl rfl (by omega) (by omega) (rfl) ((nI_snoc l c))) (fun v18 hv18 => ?_)
    refine RunL.know (fun _ hs => own_oneCell (hs.own (i := 2) rfl)) (fun h1v => ?_)
    refine RunL.still rfl rfl rfl (Still.nilCheck rfl rfl) ?_
    refine RunL.still rfl rfl rfl (Still.fieldAddrL (off := 0) (off' := 0) rfl rfl Tryz.underlying96 rfl Tryz.sizeOf36 rfl) ?_
    refine RunL.does0 rfl rfl (Does.store1 rfl rfl rfl (i := 1) rfl Tryz.sizeOf36 (h1v) (rfl)) (fun _ _ => ?_)
    refine RunL.conv (fun _ hs => hs.re 1 rfl (show _ = HL.obj sb (.cells #[v18, av] 96 (0, 0)) from rfl)) ?_
    refine RunL.nil ?_
    rw [show nbAdd l c = l ++ [c] from if_neg h10]
    refine Ends.leave (.inr rfl) (fun _ _ ok => results0 Tryz.results124  ok) (fun w1 hs => ?_)
    refine Ret.intro v18 trivial rfl ?_ hs
    exact (HSub.pick 1 rfl (HSub.pick 1 (by rw [List.length_append]; rfl) (HSub.nil _)))
  · have h10 : c ∈ l := by have h := h10; simpa [nI_mem] using h
    refine RunC.skip ?_
    rw [show nbAdd l c = l from if_pos h10]
    refine Ends.leave (.inr rfl) (fun _ _ ok => results0 Tryz.results124  ok) (fun w2 hs => ?_)
    exact Ret.intro cv trivial rfl (HSub.pick 0 rfl (HSub.pick 0 rfl (HSub.nil _))) hs

theorem ref_NextN (base : Option Addr) (A : Addr) (cap : Nat) (d : Dia) (a : Nat) (w : World) (hd : DiaAt w base A d) (hS : SoundP d) (ha : a < 2 * d.cross.length) : Gives Tryz.prog 126 #[diaV base cap d, iv a] w Nil (fun _ : Unit => True) (fun _ => iv (nextN d a : Nat)) (fun _ => []) := by
  obtain ⟨q, hq⟩ := hS.find ha true
  have h := ref_Next base A cap d a q w hd hq
  rwa [(hS.next ha).1] at h

theorem ref_walk (base : Option Addr) (A : Addr) (cap : Nat) (d : Dia) (hS : SoundP d) (sb : Nat) (cv av : Value) (s0 : Nb) (a0 : Nat) (w w00 : World) (hd : DiaAt w00 base A d) (hO : Old Nil w00 w) (hf : ∀ c, SK [HL.obj sb (.cells #[cv, av] 96 (0, 0)), HL.own 3 1 cv s0.2.length (ints (nI s0.2)), HL.own 3 1 av s0.1.length (ints (nI s0.1))] c → w00.heap.size ≤ c) (hs0 : Sym w (SK [HL.obj sb (.cells #[cv, av] 96 (0, 0)), HL.own 3 1 cv s0.2.length (ints (nI s0.2)), HL.own 3 1 av s0.1.length (ints (nI s0.1))]) [HL.obj sb (.cells #[cv, av] 96 (0, 0)), HL.own 3 1 cv s0.2.length (ints (nI s0.2)), HL.own 3 1 av s0.1.length (ints (nI s0.1))] w) (hk : NbOk d s0) (ha : a0 < 2 * d.cross.length) : Gives Tryz.prog 90 #[ptrV sb, diaV base cap d, iv a0] w (SK [HL.obj sb (.cells #[cv, av] 96 (0, 0)), HL.own 3 1 cv s0.2.length (ints (nI s0.2)), HL.own 3 1 av s0.1.length (ints (nI s0.1))]) (fun _ : Value × Value => True) (fun _ => .tuple #[]) (fun g => [HL.obj sb (.cells #[g.1, g.2] 96 (0, 0)), HL.own 3 1 g.1 (nbW d s0 a0).2.length (ints (nI (nbW d s0 a0).2)), HL.own 3 1 g.2 (nbW d s0 a0).1.length (ints (nI (nbW d s0 a0).1))]) := by
  have h200 := hS.1
  refine fn_of_run (S := (SK [HL.obj sb (.cells #[cv, av] 96 (0, 0)), HL.own 3 1 cv s0.2.length (ints (nI s0.2)), HL.own 3 1 av s0.1.length (ints (nI s0.1))])) (args := [ptrV sb, diaV base cap d, iv a0]) (n := 32) (L := [HL.obj sb (.cells #[cv, av] 96 (0, 0)), HL.own 3 1 cv s0.2.length (ints (nI s0.2)), HL.own 3 1 av s0.1.length (ints (nI s0.1))]) Tryz.func90 rfl Tryz.ntmps90 (Nat.le_of_ble_eq_true rfl) hs0 ?_
  change RunC _ _ _ [(0, _), (1, _), (2, _)] _
  refine RunC.seq ?_
  refine RunC.region ?_
  refine RunL.grows rfl rfl rfl (Grows.box rfl rfl) (fun b4 _ => ?_)
  refine RunL.nil ?_
  refine Ends.then ?_
  refine RunC.block ?_
  refine RunC.loop2 (γ := (Value × Value) × Nb × Nat) (keep := [(0, _), (4, _)]) (hkeep := [_]) (fun (g, s, a) => NbOk d s ∧ a < 2 * d.cross.length ∧ nbW d s a = nbW d s0 a0) (fun (g, s, a) => 2 * d.cross.length + 1 - s.1.length) (fun (g, s, a) => [(2, iv a)]) (fun (g, s, a) => [HL.obj sb (.cells #[g.1, g.2] 96 (0, 0)), HL.own 3 1 g.1 s.2.length (ints (nI s.2)), HL.own 3 1 g.2 s.1.length (ints (nI s.1))]) ((cv, av), s0, a0) ⟨hk, ha, rfl⟩ (Fr.Sub.cons rfl (Fr.Sub.nil _)) (Fr.Sub.cons rfl (Fr.Sub.cons rfl (Fr.Sub.nil _))) (HSub.pick 1 rfl (HSub.pick 1 rfl (HSub.pick 1 rfl (HSub.pick 0 rfl (HSub.nil _))))) ?_
  rintro ⟨⟨u, v⟩, s, a⟩ ⟨hk, ha, hW⟩
  have hk : NbOk d s := hk
  have ha : a < 2 * d.cross.length := ha
  have hW : nbW d s a = nbW d s0 a0 := hW
  have hal := hk.alen
  have hnl := nI_len s.1
  refine RunC.seq ?_
  refine RunC.seq ?_
  refine RunC.region ?_
  refine RunL.still rfl rfl rfl (Still.move rfl rfl) ?_
  refine RunL.still rfl rfl rfl (Still.nilCheck rfl rfl) ?_
  refine RunL.still rfl rfl rfl (Still.fieldAddrL (off := 0) (off' := 1) rfl rfl Tryz.underlying96 rfl Tryz.sizeOf36 rfl) ?_
  refine RunL.still rfl rfl rfl (Still.load rfl rfl Tryz.isAgg36 (fun _ hs => cell_nth (hs.at (i := 0) rfl) rfl)) ?_
  refine RunL.still rfl rfl rfl (Still.move rfl rfl) ?_
  refine RunL.grows rfl rfl rfl (Grows.call (vs := #[_, _]) rfl rfl Tryz.call92 (fun w hs => ref_contains v (nI s.1) a w (show Shape _ (nI s.1).length by rw [nI_len]; exact own_shape (hs.own (i := 2) rfl)) (own_all (hs.own (i := 2) rfl)) (by rw [nI_len]; omega))) (fun _ _ => ?_)
  refine RunL.still rfl rfl rfl (Still.not rfl rfl) ?_
  refine RunL.nil ?_
  refine Ends.then ?_
  refine RunC.cond rfl (fun h12 => ?_) (fun h12 => ?_)
  · have h12 : a ∉ s.1 := by have h := h12; simpa [nI_mem] using h
    refine RunC.skip ?_
    refine Ends.then ?_
    refine RunC.block ?_
    refine RunC.seq ?_
    refine RunC.region ?_
    refine RunL.still rfl rfl rfl (Still.move rfl rfl) ?_
    refine RunL.still rfl rfl rfl (Still.move rfl rfl) ?_
    refine RunL.still rfl rfl rfl (Still.nilCheck rfl rfl) ?_
    refine RunL.still rfl rfl rfl (Still.fieldAddrL (off := 0) (off' := 1) rfl rfl Tryz.underlying96 rfl Tryz.sizeOf36 rfl) ?_
    refine RunL.still rfl rfl rfl (Still.load rfl rfl Tryz.isAgg36 (fun _ hs => cell_nth (hs.at (i := 0) rfl) rfl)) ?_
    refine RunL.still rfl rfl rfl (Still.move rfl rfl) ?_
    refine RunL.grows rfl rfl rfl (Grows.slice1 rfl rfl Tryz.underlying36 Tryz.sizeOf3 rfl Tryz.zeroValue3 (by decide)) (fun b19 _ => ?_)
    refine RunL.does rfl rfl rfl (Does.appendTo (n' := (s.1.length + 1)) (xs' := (ints (nI (s.1 ++ [a])))) (news := [_]) rfl rfl rfl rfl (i := 3) rfl Tryz.underlying36 (by kernel_rfl : (_ : Option _) = some (some (.int .i64 0), 1, 8)) rfl rfl (fun _ hs => cells_nth (hs.at (i := 0) rfl) ⟨rfl, trivial⟩) rfl rfl (by omega) (by omega) (rfl) ((nI_snoc s.1 a))) (fun v20 hv20 => ?_)
    refine RunL.know (fun _ hs => own_oneCell (hs.own (i := 3) rfl)) (fun h1v => ?_)
    refine RunL.still rfl rfl rfl (Still.nilCheck rfl rfl) ?_
    refine RunL.still rfl rfl rfl (Still.fieldAddrL (off := 0) (off' := 1) rfl rfl Tryz.underlying96 rfl Tryz.sizeOf36 rfl) ?_
    refine RunL.does0 rfl rfl (Does.store1 rfl rfl rfl (i := 1) rfl Tryz.sizeOf36 (h1v) (rfl)) (fun _ _ => ?_)
    refine RunL.conv (fun _ hs => hs.re 1 rfl (show _ = HL.obj sb (.cells #[u, v20] 96 (0, 0)) from rfl)) ?_
    refine RunL.nil ?_
    refine Ends.then ?_
    refine RunC.seq ?_
    refine RunC.region ?_
    refine RunL.still rfl rfl rfl (Still.move rfl rfl) ?_
    refine RunL.still rfl rfl rfl (Still.loads rfl rfl Tryz.isAgg24 Tryz.sizeOf24 (vs := [_, _]) rfl (fun _ hs => cells_nth (hs.at (i := 4) rfl) ⟨rfl, ⟨rfl, trivial⟩⟩)) ?_
    refine RunL.still rfl rfl rfl (Still.move rfl rfl) ?_
    refine RunL.grows rfl rfl rfl (Grows.call (vs := #[_, _]) rfl rfl Tryz.call125 (fun w hs => ref_End_in base A cap d a w (hd.outer hO hf hs) hS (by omega) (by omega))) (fun _ _ => ?_)
    refine RunL.still rfl rfl rfl (Still.field1 rfl rfl Tryz.underlying110 rfl Tryz.isAgg3 rfl) ?_
    refine RunL.does rfl rfl rfl (Does.call (vs := #[_, _]) (K := [_, _]) (R := [_, _, _]) (S' := _) rfl rfl Tryz.call124 (HSub.pick 1 rfl (HSub.pick 1 rfl (HSub.pick 0 rfl (HSub.pick 0 rfl (HSub.pick 0 rfl (HSub.nil _)))))) (fun c h => h) (fun w hs => ref_cross sb u v20 s.2 (endX d a) w hs.left.hand (by have := hk.clen; omega))) (fun v28 _ => ?_)
    refine RunL.nil ?_
    refine Ends.then ?_
    refine RunC.region ?_
    refine RunL.still rfl rfl rfl (Still.loads rfl rfl Tryz.isAgg24 Tryz.sizeOf24 (vs := [_, _]) rfl (fun _ hs => cells_nth (hs.at (i := 4) rfl) ⟨rfl, ⟨rfl, trivial⟩⟩)) ?_
    refine RunL.still rfl rfl rfl (Still.move rfl rfl) ?_
    refine RunL.grows rfl rfl rfl (Grows.call (vs := #[_, _]) rfl rfl Tryz.call126 (fun w hs => ref_NextN base A cap d a w (hd.outer hO hf hs) hS ha)) (fun _ _ => ?_)
    refine RunL.still rfl rfl rfl (Still.assign rfl rfl) ?_
    refine RunL.nil ?_
    refine Ends.block ?_
    refine Ends.again ((v28, v20), (s.1 ++ [a], nbAdd s.2 (endX d a)), nextN d a) ?_ ?_ (Fr.Sub.app ?_ ?_) ?_
    · exact ⟨hk.step hS ha h12, hS.next_lt a ha, (nbW_out hk h12).symm.trans hW⟩
    · show _ - (s.1 ++ [a]).length < _ - s.1.length; rw [List.length_append, List.length_singleton]; omega
    · exact Fr.Sub.cons rfl (Fr.Sub.nil _)
    · exact Fr.Sub.cons rfl (Fr.Sub.cons rfl (Fr.Sub.nil _))
    · exact HSub.pick 0 rfl (HSub.pick 0 rfl (HSub.pick 1 (by show _ = some (HL.own 3 1 v20 (s.1 ++ [a]).length _); rw [List.length_append]; rfl) (HSub.pick 1 rfl (HSub.nil _))))
  · have h12 : a ∈ s.1 := by have h := h12; simpa [nI_mem] using h
    refine RunC.exit ?_
    refine Ends.then_exit ?_
    refine Ends.then_exit ?_
    refine Ends.block_exit ?_
    rw [← hW, nbW_in h12]
    refine Ends.leave (.inr rfl) (fun _ _ ok => results0 Tryz.results90  ok) (fun w1 hs => ?_)
    exact Ret.intro (u, v) trivial rfl (HSub.pick 0 rfl (HSub.pick 0 rfl (HSub.pick 0 rfl (HSub.nil _)))) hs

theorem ref_Standard (base : Option Addr) (A : Addr) (cap : Nat) (d : Dia) (c way : Nat) (w : World) (hd : DiaAt w base A d) (hS : SoundP d) (hc : c < d.cross.length) : Gives Tryz.prog 53 #[diaV base cap d, iv c, iv way] w Nil (fun _ : Value × Value => True) (fun g => .agg #[g.1, g.2]) (fun g => [HL.own 3 1 g.1 (stdN d c way).2.length (ints (nI (stdN d c way).2)), HL.own 3 1 g.2 (stdN d c way).1.length (ints (nI (stdN d c way).1))]) := by
  have h200 := hS.1
  refine fn_of_run (S := Nil) (args := [diaV base cap d, iv c, iv way]) (n := 73) (L := []) Tryz.func53 rfl Tryz.ntmps53 (Nat.le_of_ble_eq_true rfl) (Sym.nil _ _) ?_
  change RunC _ _ _ [(0, _), (1, _), (2, _)] _
  refine RunC.seq ?_
  refine RunC.region ?_
  refine RunL.grows rfl rfl rfl (Grows.box rfl rfl) (fun b3 _ => ?_)
  refine RunL.grows rfl rfl rfl (Grows.alloc rfl Tryz.zeroValue96) (fun b6 _ => ?_)
  refine RunL.nil ?_
  refine Ends.then ?_
  refine RunC.seq ?_
  refine RunC.region ?_
  refine RunL.still rfl rfl rfl (Still.move rfl rfl) ?_
  refine RunL.grows rfl rfl rfl (Grows.slice1 rfl rfl Tryz.underlying36 Tryz.sizeOf3 rfl Tryz.zeroValue3 (by decide)) (fun b12 _ => ?_)
  refine RunL.conv (fun _ hs => Sym.obj_own (k := 1) (n := 1) hs rfl (by omega)) ?_
  refine RunL.still rfl rfl rfl (Still.build_1 (fun x0_0 => .agg #[x0_0, .slice none 0 0]) rfl rfl (fun _ => by kernel_rfl)) ?_
  refine RunL.grows rfl rfl rfl (Grows.box rfl rfl) (fun b14 _ => ?_)
  refine RunL.still rfl rfl rfl (Still.assign rfl rfl) ?_
  refine RunL.nil ?_
  refine Ends.then ?_
  refine RunC.seq ?_
  refine RunC.own_nil 3 1 ?_
  refine RunC.draw 9 (.still 0 (.still 1 (.still 2 (.still 3 (.still 4 (.still 5 (.still 6 (.still 7 (.one 8 .done))))))))) (by kernel_rfl) (by kernel_rfl) ?_
  refine RunG.still rfl rfl rfl rfl (Still.move rfl rfl) ?_
  refine RunG.still rfl rfl rfl rfl (Still.loads rfl rfl Tryz.isAgg24 Tryz.sizeOf24 (vs := [_, _]) rfl (fun _ hs => cells_nth (hs.at (i := 4) rfl) ⟨rfl, ⟨rfl, trivial⟩⟩)) ?_
  refine RunG.still rfl rfl rfl rfl (Still.fieldAddrL (off := 0) (off' := 0) rfl rfl Tryz.underlying24 rfl Tryz.sizeOf22 rfl) ?_
  refine RunG.still rfl rfl rfl rfl (Still.load rfl rfl Tryz.isAgg22 (fun _ hs => cell_nth (hs.at (i := 4) rfl) rfl)) ?_
  refine RunG.still rfl rfl rfl rfl (Still.move rfl rfl) ?_
  refine RunG.still rfl rfl rfl rfl (Still.indexSliceN rfl rfl rfl Tryz.underlying22 Tryz.sizeOf62 (hd.base (by omega)) (by omega)) ?_
  refine RunG.still rfl rfl rfl rfl (Still.loads rfl rfl Tryz.isAgg62 Tryz.sizeOf62 (vs := encCr (crAt d c)) rfl (fun _ hs => Cells.base0 (hd.cross (crAt_get hc)) hs)) ?_
  refine RunG.still rfl rfl rfl rfl (Still.move rfl rfl) ?_
  refine RunG.grows rfl rfl rfl rfl (Grows.call (vs := #[_, _]) rfl rfl Tryz.call91 (fun w hs => ref_out hS hc way w)) (fun _ _ => ?_)
  refine RunG.done ?_
  show RunL _ _ _ [_] _ _
  refine RunL.does rfl rfl rfl (Does.call (vs := #[_, _, _]) (K := [_, _, _]) (R := [_, _]) (S' := _) rfl rfl Tryz.call90 (HSub.pick 1 rfl (HSub.pick 1 rfl (HSub.pick 0 rfl (HSub.pick 0 rfl (HSub.pick 0 rfl (HSub.nil _)))))) (fun c h => h) (fun w hs => ref_walk base A cap d hS b14 (.slice (some ⟨b12, 0, none⟩) 1 1) (.slice none 0 0) ([], [c]) (outN (crAt d c) way) w _ hd hs.old hs.left.fresh hs.left.hand (nb_one hc) (outN_lt hS hc way))) (fun ⟨v0, u0⟩ _ => ?_)
  refine RunL.nil ?_
  refine Ends.then ?_
  refine RunC.seq ?_
  refine RunC.seq ?_
  refine RunC.region ?_
  refine RunL.still rfl rfl rfl (Still.assign rfl rfl) ?_
  refine RunL.nil ?_
  refine Ends.then ?_
  refine RunC.block ?_
  refine RunC.loop2 (γ := (Value × Value) × Nb × Nat) (keep := [(3, _), (6, _), (7, _)]) (hkeep := [_, _]) (fun (g, s, i) => NbOk d s ∧ nbG d 0 s = stdN d c way ∧ ClosedTo d s i ∧ i ≤ s.2.length) (fun (g, s, i) => (2 * d.cross.length + 1 - s.1.length) * (2 * d.cross.length + 2) + (2 * d.cross.length + 1 - i)) (fun (g, s, i) => [(8, iv i)]) (fun (g, s, i) => [HL.obj b14 (.cells #[g.1, g.2] 96 (0, 0)), HL.own 3 1 g.1 s.2.length (ints (nI s.2)), HL.own 3 1 g.2 s.1.length (ints (nI s.1))]) ((v0, u0), nbW d ([], [c]) (outN (crAt d c) way), 0) ⟨nbW_ok hS (nb_one hc) (outN_lt hS hc way), rfl, fun j hj => absurd hj (Nat.not_lt_zero _), Nat.zero_le _⟩ (Fr.Sub.cons rfl (Fr.Sub.nil _)) (Fr.Sub.cons rfl (Fr.Sub.cons rfl (Fr.Sub.cons rfl (Fr.Sub.nil _)))) (HSub.pick 0 rfl (HSub.pick 0 rfl (HSub.pick 0 rfl (HSub.pick 0 rfl (HSub.pick 0 rfl (HSub.nil _)))))) ?_
  rintro ⟨⟨v, u⟩, s, i⟩ ⟨hk, hG, hcl, hil⟩
  have hk : NbOk d s := hk
  have hG : nbG d 0 s = stdN d c way := hG
  have hcl : ClosedTo d s i := hcl
  have hil : i ≤ s.2.length := hil
  have hcn := hk.clen
  have han := hk.alen
  have hn1 := nI_len s.1
  have hn2 := nI_len s.2
  refine RunC.seq ?_
  refine RunC.seq ?_
  refine RunC.region ?_
  refine RunL.still rfl rfl rfl (Still.move rfl rfl) ?_
  refine RunL.still rfl rfl rfl (Still.move rfl rfl) ?_
  refine RunL.still rfl rfl rfl (Still.nilCheck rfl rfl) ?_
  refine RunL.still rfl rfl rfl (Still.fieldAddrL (off := 0) (off' := 0) rfl rfl Tryz.underlying96 rfl Tryz.sizeOf36 rfl) ?_
  refine RunL.still rfl rfl rfl (Still.load rfl rfl Tryz.isAgg36 (fun _ hs => cell_nth (hs.at (i := 0) rfl) rfl)) ?_
  refine RunL.still rfl rfl rfl (Still.lenOwn rfl rfl Tryz.underlying36 (fun _ hs => hs.own (i := 1) rfl)) ?_
  refine RunL.still rfl rfl rfl (Still.lss rfl rfl rfl) ?_
  refine RunL.nil ?_
  refine Ends.then ?_
  refine RunC.cond rfl (fun h31 => ?_) (fun h31 => ?_)
  · have h31 := of_decide_eq_true h31
    obtain ⟨ci, hci2⟩ := get_of_lt (l := s.2) (i := i) (by omega)
    have hci := hk.cl ci (List.mem_of_getElem? hci2)
    refine RunC.skip ?_
    refine Ends.then ?_
    refine RunC.seq ?_
    refine RunC.block ?_
    refine RunC.seq ?_
    refine RunC.draw 12 (.still 0 (.still 1 (.still 2 (.still 3 (.still 4 (.still 5 (.still 6 (.still 7 (.still 8 (.still 9 (.still 10 (.one 11 .done)))))))))))) (by kernel_rfl) (by kernel_rfl) ?_
    refine RunG.still rfl rfl rfl rfl (Still.fieldAddrL (off := 0) (off' := 0) rfl rfl Tryz.underlying24 rfl Tryz.sizeOf22 rfl) ?_
    refine RunG.still rfl rfl rfl rfl (Still.load rfl rfl Tryz.isAgg22 (fun _ hs => cell_nth (hs.at (i := 4) rfl) rfl)) ?_
    refine RunG.still rfl rfl rfl rfl (Still.move rfl rfl) ?_
    refine RunG.still rfl rfl rfl rfl (Still.nilCheck rfl rfl) ?_
    refine RunG.still rfl rfl rfl rfl (Still.fieldAddrL (off := 0) (off' := 0) rfl rfl Tryz.underlying96 rfl Tryz.sizeOf36 rfl) ?_
    refine RunG.still rfl rfl rfl rfl (Still.load rfl rfl Tryz.isAgg36 (fun _ hs => cell_nth (hs.at (i := 0) rfl) rfl)) ?_
    refine RunG.still rfl rfl rfl rfl (Still.move rfl rfl) ?_
    refine RunG.still rfl rfl rfl rfl (Still.indexOwn rfl rfl rfl Tryz.underlying36 Tryz.sizeOf3 (fun _ hs => hs.own (i := 1) rfl) (by omega)) ?_
    refine RunG.still rfl rfl rfl rfl (Still.load rfl rfl Tryz.isAgg3 (fun w hs => own_at (hs.own (i := 1) rfl) (ints_get (nI_get hci2)))) ?_
    refine RunG.still rfl rfl rfl rfl (Still.indexSliceN rfl rfl rfl Tryz.underlying22 Tryz.sizeOf62 (hd.base (by omega)) (by omega)) ?_
    refine RunG.still rfl rfl rfl rfl (Still.loads rfl rfl Tryz.isAgg62 Tryz.sizeOf62 (vs := encCr (crAt d ci)) rfl (fun _ hs => Cells.base0 (hd.cross (crAt_get hci)) hs)) ?_
    refine RunG.grows rfl rfl rfl rfl (Grows.alloc rfl Tryz.zeroValue62) (fun b9 _ => ?_)
    refine RunG.done ?_
    show RunL _ _ _ [_] _ _
    refine RunL.does0 rfl rfl (Does.store rfl rfl rfl (i := 0) rfl Tryz.sizeOf62 rfl (rfl) rfl) (fun _ _ => ?_)
    refine RunL.conv (fun _ hs => hs.re 0 rfl (show _ = HL.obj b9 (.cells #[iv (crAt d ci).a0, iv (crAt d ci).a1, iv (crAt d ci).a2, iv (crAt d ci).a3, iv (crAt d ci).s] 62 (0, 0)) from rfl)) ?_
    refine RunL.nil ?_
    refine Ends.then ?_
    refine RunC.seq ?_
    refine RunC.region ?_
    refine RunL.still rfl rfl rfl (Still.assign rfl rfl) ?_
    refine RunL.nil ?_
    refine Ends.then ?_
    refine RunC.block ?_
    refine RunC.loop2 (γ := Nat) (keep := [(3, _), (6, _), (7, _), (9, _)]) (hkeep := [_, _, _, _, _, _]) (fun k => k ≤ 2 ∧ ∀ x, x < k → outN (crAt d ci) x ∈ s.1) (fun k => 2 - k) (fun k => [(8, iv i), (10, iv k)]) (fun k => []) 0 ⟨Nat.zero_le _, fun x h => absurd h (Nat.not_lt_zero _)⟩ (Fr.Sub.cons rfl (Fr.Sub.cons rfl (Fr.Sub.nil _))) (Fr.Sub.cons rfl (Fr.Sub.cons rfl (Fr.Sub.cons rfl (Fr.Sub.cons rfl (Fr.Sub.nil _))))) (HSub.pick 0 rfl (HSub.pick 0 rfl (HSub.pick 0 rfl (HSub.pick 0 rfl (HSub.pick 0 rfl (HSub.pick 0 rfl (HSub.nil _))))))) ?_
    rintro k ⟨hk2, hlow⟩
    refine RunC.seq ?_
    refine RunC.seq ?_
    refine RunC.region ?_
    refine RunL.still rfl rfl rfl (Still.move rfl rfl) ?_
    refine RunL.still rfl rfl rfl (Still.lss rfl rfl rfl) ?_
    refine RunL.nil ?_
    refine Ends.then ?_
    refine RunC.cond rfl (fun h46 => ?_) (fun h46 => ?_)
    · have h46 := of_decide_eq_true h46
      have h46n : k < 2 := by omega
      refine RunC.skip ?_
      refine Ends.then ?_
      refine RunC.seq ?_
      refine RunC.block ?_
      refine RunC.seq ?_
      refine RunC.draw 7 (.still 0 (.still 1 (.still 2 (.still 3 (.still 4 (.still 5 (.one 6 .done))))))) (by kernel_rfl) (by kernel_rfl) ?_
      refine RunG.still rfl rfl rfl rfl (Still.move rfl rfl) ?_
      refine RunG.still rfl rfl rfl rfl (Still.nilCheck rfl rfl) ?_
      refine RunG.still rfl rfl rfl rfl (Still.fieldAddrL (off := 0) (off' := 1) rfl rfl Tryz.underlying96 rfl Tryz.sizeOf36 rfl) ?_
      refine RunG.still rfl rfl rfl rfl (Still.load rfl rfl Tryz.isAgg36 (fun _ hs => cell_nth (hs.at (i := 1) rfl) rfl)) ?_
      refine RunG.still rfl rfl rfl rfl (Still.loads rfl rfl Tryz.isAgg62 Tryz.sizeOf62 (vs := [_, _, _, _, _]) rfl (fun _ hs => cells_nth (hs.at (i := 0) rfl) ⟨rfl, ⟨rfl, ⟨rfl, ⟨rfl, ⟨rfl, trivial⟩⟩⟩⟩⟩)) ?_
      refine RunG.still rfl rfl rfl rfl (Still.move rfl rfl) ?_
      refine RunG.grows rfl rfl rfl rfl (Grows.call (vs := #[_, _]) rfl rfl Tryz.call91 (fun w hs => ref_out hS hci k w)) (fun _ _ => ?_)
      refine RunG.done ?_
      show RunL _ _ _ [_, _] _ _
      refine RunL.grows rfl rfl rfl (Grows.call (vs := #[_, _]) rfl rfl Tryz.call92 (fun w hs => ref_contains u (nI s.1) (outN (crAt d ci) k : Nat) w (show Shape _ (nI s.1).length by rw [nI_len]; exact own_shape (hs.own (i := 3) rfl)) (own_all (hs.own (i := 3) rfl)) (by omega))) (fun _ _ => ?_)
      refine RunL.still rfl rfl rfl (Still.not rfl rfl) ?_
      refine RunL.nil ?_
      refine Ends.then ?_
      refine RunC.cond rfl (fun h57 => ?_) (fun h57 => ?_)
      · have h57 : outN (crAt d ci) k ∉ s.1 := by have h := h57; simpa [nI_mem] using h
        refine RunC.seq ?_
        refine RunC.draw 5 (.still 0 (.still 1 (.still 2 (.still 3 (.one 4 .done))))) (by kernel_rfl) (by kernel_rfl) ?_
        refine RunG.still rfl rfl rfl rfl (Still.move rfl rfl) ?_
        refine RunG.still rfl rfl rfl rfl (Still.loads rfl rfl Tryz.isAgg24 Tryz.sizeOf24 (vs := [_, _]) rfl (fun _ hs => cells_nth (hs.at (i := 5) rfl) ⟨rfl, ⟨rfl, trivial⟩⟩)) ?_
        refine RunG.still rfl rfl rfl rfl (Still.loads rfl rfl Tryz.isAgg62 Tryz.sizeOf62 (vs := [_, _, _, _, _]) rfl (fun _ hs => cells_nth (hs.at (i := 0) rfl) ⟨rfl, ⟨rfl, ⟨rfl, ⟨rfl, ⟨rfl, trivial⟩⟩⟩⟩⟩)) ?_
        refine RunG.still rfl rfl rfl rfl (Still.move rfl rfl) ?_
        refine RunG.grows rfl rfl rfl rfl (Grows.call (vs := #[_, _]) rfl rfl Tryz.call91 (fun w hs => ref_out hS hci k w)) (fun _ _ => ?_)
        refine RunG.done ?_
        show RunL _ _ _ [_] _ _
        refine RunL.does rfl rfl rfl (Does.call (vs := #[_, _, _]) (K := [_, _, _]) (R := [_, _, _]) (S' := _) rfl rfl Tryz.call90 (HSub.pick 1 rfl (HSub.pick 1 rfl (HSub.pick 1 rfl (HSub.pick 0 rfl (HSub.pick 0 rfl (HSub.pick 0 rfl (HSub.nil _))))))) (fun c h => h) (fun w hs => ref_walk base A cap d hS b14 v u s (outN (crAt d ci) k) w _ hd hs.old hs.left.fresh hs.left.hand hk (outN_lt hS hci k))) (fun ⟨v1, u1⟩ _ => ?_)
        refine RunL.nil ?_
        refine Ends.then ?_
        refine RunC.seq ?_
        refine RunC.region ?_
        refine RunL.still rfl rfl rfl (Still.assign rfl rfl) ?_
        refine RunL.nil ?_
        refine Ends.then ?_
        refine RunC.exit ?_
        refine Ends.block_out rfl ?_
        refine Ends.then_exit ?_
        refine Ends.then_exit ?_
        refine Ends.block_exit ?_
        refine Ends.block ?_
        refine Ends.then ?_
        refine RunC.region ?_
        refine RunL.still rfl rfl rfl (Still.move rfl rfl) ?_
        refine RunL.still rfl rfl rfl (Still.add rfl rfl rfl (fits64 (by omega) (by omega))) ?_
        refine RunL.still rfl rfl rfl (Still.assign rfl rfl) ?_
        refine RunL.nil ?_
        refine Ends.again ((v1, u1), nbW d s (outN (crAt d ci) k), 0) ?_ ?_ (Fr.Sub.app ?_ ?_) ?_
        · exact ⟨nbW_ok hS hk (outN_lt hS hci k), (std_step hS hk hcl hci2 h46n hlow).trans hG, fun j hj => absurd hj (Nat.not_lt_zero _), Nat.zero_le _⟩
        · exact std_mu (std_more hS hk (outN_lt hS hci k) h57) (nbW_ok hS hk (outN_lt hS hci k)).alen
        · exact Fr.Sub.cons rfl (Fr.Sub.nil _)
        · exact Fr.Sub.cons rfl (Fr.Sub.cons rfl (Fr.Sub.cons rfl (Fr.Sub.nil _)))
        · exact HSub.pick 0 rfl (HSub.pick 0 rfl (HSub.pick 0 rfl (HSub.pick 1 rfl (HSub.pick 1 rfl (HSub.nil _)))))
      · have h57 : outN (crAt d ci) k ∈ s.1 := by have h := h57; simpa [nI_mem] using h
        refine RunC.skip ?_
        refine Ends.block ?_
        refine Ends.then ?_
        refine RunC.region ?_
        refine RunL.still rfl rfl rfl (Still.move rfl rfl) ?_
        refine RunL.still rfl rfl rfl (Still.add rfl rfl rfl (fits64 (by omega) (by omega))) ?_
        refine RunL.still rfl rfl rfl (Still.assign rfl rfl) ?_
        refine RunL.nil ?_
        refine Ends.again (k + 1) ?_ ?_ (Fr.Sub.app ?_ ?_) ?_
        · exact ⟨by omega, fun x hx => by rcases Nat.lt_or_ge x k with h2 | h2; exact hlow x h2; obtain rfl : x = k := (by omega); exact h57⟩
        · show 2 - (k + 1) < 2 - k; omega
        · exact Fr.Sub.cons rfl (Fr.Sub.cons rfl (Fr.Sub.nil _))
        · exact Fr.Sub.cons rfl (Fr.Sub.cons rfl (Fr.Sub.cons rfl (Fr.Sub.cons rfl (Fr.Sub.nil _))))
        · exact HSub.pick 0 rfl (HSub.pick 0 rfl (HSub.pick 0 rfl (HSub.pick 0 rfl (HSub.pick 0 rfl (HSub.pick 0 rfl (HSub.nil _))))))
    · have h46 := of_decide_eq_false h46
      obtain rfl : k = 2 := by omega
      refine RunC.exit ?_
      refine Ends.then_exit ?_
      refine Ends.then_exit ?_
      refine Ends.block_exit ?_
      refine Ends.block ?_
      refine Ends.then ?_
      refine RunC.region ?_
      refine RunL.still rfl rfl rfl (Still.move rfl rfl) ?_
      refine RunL.still rfl rfl rfl (Still.add rfl rfl rfl (fits64 (by omega) (by omega))) ?_
      refine RunL.still rfl rfl rfl (Still.assign rfl rfl) ?_
      refine RunL.nil ?_
      refine Ends.again ((v, u), s, i + 1) ?_ ?_ (Fr.Sub.app ?_ ?_) ?_
      · exact ⟨hk, hG, std_next hci2 hcl hlow, by show i + 1 ≤ s.2.length; omega⟩
      · show _ + (2 * d.cross.length + 1 - (i + 1)) < _ + (2 * d.cross.length + 1 - i); omega
      · exact Fr.Sub.cons rfl (Fr.Sub.nil _)
      · exact Fr.Sub.cons rfl (Fr.Sub.cons rfl (Fr.Sub.cons rfl (Fr.Sub.nil _)))
      · exact HSub.pick 1 rfl (HSub.pick 1 rfl (HSub.pick 1 rfl (HSub.pick 1 rfl (HSub.pick 1 rfl (HSub.nil _)))))
  · have h31 := of_decide_eq_false h31
    have hSt : s = stdN d c way := by rw [← hG, std_done hk hcl (by omega)]
    refine RunC.exit ?_
    refine Ends.then_exit ?_
    refine Ends.then_exit ?_
    refine Ends.block_exit ?_
    refine Ends.then ?_
    refine RunC.seq ?_
    refine RunC.know (fun _ hs => own_shape (hs.own (i := 1) rfl)) (fun hsv => ?_)
    refine RunC.know (fun _ hs => own_shape (hs.own (i := 2) rfl)) (fun hsu => ?_)
    obtain ⟨vb, vc, hvv, _⟩ := hsv
    obtain ⟨ub, uc, huu, _⟩ := hsu
    change v = _ at hvv
    change u = _ at huu
    subst hvv
    subst huu
    refine RunC.draw 9 (.still 0 (.still 1 (.still 2 (.still 3 (.still 4 (.still 5 (.still 6 (.still 7 (.still 8 .done))))))))) (by kernel_rfl) (by kernel_rfl) ?_
    refine RunG.still rfl rfl rfl rfl (Still.move rfl rfl) ?_
    refine RunG.still rfl rfl rfl rfl (Still.nilCheck rfl rfl) ?_
    refine RunG.still rfl rfl rfl rfl (Still.fieldAddrL (off := 0) (off' := 0) rfl rfl Tryz.underlying96 rfl Tryz.sizeOf36 rfl) ?_
    refine RunG.still rfl rfl rfl rfl (Still.load rfl rfl Tryz.isAgg36 (fun _ hs => cell_nth (hs.at (i := 0) rfl) rfl)) ?_
    refine RunG.still rfl rfl rfl rfl (Still.move rfl rfl) ?_
    refine RunG.still rfl rfl rfl rfl (Still.nilCheck rfl rfl) ?_
    refine RunG.still rfl rfl rfl rfl (Still.fieldAddrL (off := 0) (off' := 1) rfl rfl Tryz.underlying96 rfl Tryz.sizeOf36 rfl) ?_
    refine RunG.still rfl rfl rfl rfl (Still.load rfl rfl Tryz.isAgg36 (fun _ hs => cell_nth (hs.at (i := 0) rfl) rfl)) ?_
    refine RunG.still rfl rfl rfl rfl (Still.build_1_1 (fun x0_0 x1_0 => .agg #[x0_0, x1_0]) rfl rfl rfl (fun _ => by kernel_rfl)) ?_
    refine RunG.done ?_
    show RunL _ _ _ [_] _ _
    refine RunL.does0 rfl rfl (Does.store rfl rfl rfl (i := 3) rfl Tryz.sizeOf96 rfl (rfl) rfl) (fun _ _ => ?_)
    refine RunL.conv (fun _ hs => hs.re 3 rfl (show _ = HL.obj b6 (.cells #[.slice vb s.2.length vc, .slice ub s.1.length uc] 96 (0, 0)) from rfl)) ?_
    refine RunL.nil ?_
    refine Ends.then ?_
    refine RunC.ret ?_
    refine Ends.leave (.inl rfl) (fun _ _ ok => results1 Tryz.results53 (Holds.cell rfl (fun _ hs => load_cells (vs := [_, _]) Tryz.isAgg96 Tryz.sizeOf96 rfl (cells_nth (hs.at (i := 3) rfl) ⟨rfl, ⟨rfl, trivial⟩⟩))) ok) (fun w1 hs => ?_)
    rw [← hSt]
    exact Ret.intro (_, _) trivial rfl (HSub.pick 1 rfl (HSub.pick 1 rfl (HSub.nil _))) hs

theorem ref_Numbered (base : Option Addr) (A : Addr) (cap : Nat) (d : Dia) (cv av : Value) (s : Nb) (w : World) (hd : DiaAt w base A d) (hS : SoundP d) (hk : NbOk d s) (ham : ∀ k, k ∈ s.2 → ∀ p, p < 4 → ((crAt d k).arc p).toNat ∈ s.1) (hcv : Shape cv s.2.length) (hcc : Cells w (vaddr cv) (ints (nI s.2))) (hav : Shape av s.1.length) (hca : Cells w (vaddr av) (ints (nI s.1))) : Gives Tryz.prog 52 #[diaV base cap d, .agg #[cv, av]] w Nil (fun _ : Value => True) (fun v => v) (fun v => [HL.own 62 5 v s.2.length ((rowsTo d s s.2.length).flatMap encCr)]) := by
  have h200 := hS.1
  have hcn := hk.clen
  have han := hk.alen
  have hn1 := nI_len s.1
  have hn2 := nI_len s.2
  refine fn_of_run (S := Nil) (args := [diaV base cap d, .agg #[cv, av]]) (n := 45) (L := []) Tryz.func52 rfl Tryz.ntmps52 (Nat.le_of_ble_eq_true rfl) (Sym.nil _ _) ?_
  change RunC _ _ _ [(0, _), (1, _)] _
  refine RunC.seq ?_
  refine RunC.region ?_
  refine RunL.grows rfl rfl rfl (Grows.box rfl rfl) (fun b2 _ => ?_)
  refine RunL.grows rfl rfl rfl (Grows.box rfl rfl) (fun b3 _ => ?_)
  refine RunL.still rfl rfl rfl (Still.assign rfl rfl) ?_
  refine RunL.nil ?_
  refine Ends.then ?_
  refine RunC.seq ?_
  refine RunC.region ?_
  refine RunL.grows rfl rfl rfl (Grows.empty rfl Tryz.underlying22 Tryz.sizeOf62 Tryz.zeroValue62) (fun b9 _ => ?_)
  refine RunL.still rfl rfl rfl (Still.assign rfl rfl) ?_
  refine RunL.nil ?_
  refine Ends.then ?_
  refine RunC.seq ?_
  refine RunC.seq ?_
  refine RunC.region ?_
  refine RunL.still rfl rfl rfl (Still.assign rfl rfl) ?_
  refine RunL.nil ?_
  refine Ends.then ?_
  refine RunC.block ?_
  refine RunC.loop2 (γ := Value × Nat) (keep := [(2, _), (3, _)]) (hkeep := [_, _]) (fun (x, j) => j ≤ s.2.length) (fun (x, j) => s.2.length - j) (fun (x, j) => [(5, x), (6, iv j)]) (fun (x, j) => [HL.own 62 5 x j ((rowsTo d s j).flatMap encCr)]) (.slice (some ⟨b9, 0, none⟩) 0 0, 0) (Nat.zero_le _) (Fr.Sub.cons rfl (Fr.Sub.cons rfl (Fr.Sub.nil _))) (Fr.Sub.cons rfl (Fr.Sub.cons rfl (Fr.Sub.nil _))) (HSub.pick 0 rfl (HSub.pick 0 rfl (HSub.pick 0 rfl (HSub.nil _)))) ?_
  rintro ⟨x, j⟩ hj
  have hj : j ≤ s.2.length := hj
  refine RunC.seq ?_
  refine RunC.seq ?_
  refine RunC.region ?_
  refine RunL.still rfl rfl rfl (Still.move rfl rfl) ?_
  refine RunL.still rfl rfl rfl (Still.fieldAddrL (off := 0) (off' := 0) rfl rfl Tryz.underlying96 rfl Tryz.sizeOf36 rfl) ?_
  refine RunL.still rfl rfl rfl (Still.load rfl rfl Tryz.isAgg36 (fun _ hs => cell_nth (hs.at (i := 1) rfl) rfl)) ?_
  refine RunL.still rfl rfl rfl (Still.lenV rfl rfl Tryz.underlying36 ((show Shape cv (nI s.2).length by rw [nI_len]; exact hcv))) ?_
  refine RunL.still rfl rfl rfl (Still.lss rfl rfl rfl) ?_
  refine RunL.nil ?_
  refine Ends.then ?_
  refine RunC.cond rfl (fun h14 => ?_) (fun h14 => ?_)
  · have h14 := of_decide_eq_true h14
    obtain ⟨kk, hkk2⟩ := get_of_lt (l := s.2) (i := j) (by omega)
    have hkk := hk.cl kk (List.mem_of_getElem? hkk2)
    refine RunC.skip ?_
    refine Ends.then ?_
    refine RunC.seq ?_
    refine RunC.block ?_
    refine RunC.seq ?_
    refine RunC.draw 10 (.still 0 (.still 1 (.still 2 (.still 3 (.still 4 (.still 5 (.still 6 (.still 7 (.still 8 (.one 9 .done)))))))))) (by kernel_rfl) (by kernel_rfl) ?_
    refine RunG.still rfl rfl rfl rfl (Still.fieldAddrL (off := 0) (off' := 0) rfl rfl Tryz.underlying24 rfl Tryz.sizeOf22 rfl) ?_
    refine RunG.still rfl rfl rfl rfl (Still.load rfl rfl Tryz.isAgg22 (fun _ hs => cell_nth (hs.at (i := 2) rfl) rfl)) ?_
    refine RunG.still rfl rfl rfl rfl (Still.fieldAddrL (off := 0) (off' := 0) rfl rfl Tryz.underlying96 rfl Tryz.sizeOf36 rfl) ?_
    refine RunG.still rfl rfl rfl rfl (Still.load rfl rfl Tryz.isAgg36 (fun _ hs => cell_nth (hs.at (i := 1) rfl) rfl)) ?_
    refine RunG.still rfl rfl rfl rfl (Still.move rfl rfl) ?_
    refine RunG.still rfl rfl rfl rfl (Still.indexV _ rfl rfl rfl Tryz.underlying36 Tryz.sizeOf3 ((show Shape cv (nI s.2).length by rw [nI_len]; exact hcv)) (rfl) (by omega)) ?_
    refine RunG.still rfl rfl rfl rfl (Still.load rfl rfl Tryz.isAgg3 (fun _ hs => cells_at (Cells.base0 hcc hs) (ints_get (nI_get hkk2)))) ?_
    refine RunG.still rfl rfl rfl rfl (Still.indexSliceN rfl rfl rfl Tryz.underlying22 Tryz.sizeOf62 (hd.base (by omega)) (by omega)) ?_
    refine RunG.still rfl rfl rfl rfl (Still.loads rfl rfl Tryz.isAgg62 Tryz.sizeOf62 (vs := encCr (crAt d kk)) rfl (fun _ hs => Cells.base0 (hd.cross (crAt_get hkk)) hs)) ?_
    refine RunG.grows rfl rfl rfl rfl (Grows.alloc rfl Tryz.zeroValue62) (fun b7 _ => ?_)
    refine RunG.done ?_
    show RunL _ _ _ [_] _ _
    refine RunL.does0 rfl rfl (Does.store rfl rfl rfl (i := 0) rfl Tryz.sizeOf62 rfl (rfl) rfl) (fun _ _ => ?_)
    refine RunL.conv (fun _ hs => hs.re 0 rfl (show _ = HL.obj b7 (.cells #[iv (crAt d kk).a0, iv (crAt d kk).a1, iv (crAt d kk).a2, iv (crAt d kk).a3, iv (crAt d kk).s] 62 (0, 0)) from rfl)) ?_
    refine RunL.nil ?_
    refine Ends.then ?_
    refine RunC.seq ?_
    refine RunC.seq ?_
    refine RunC.region ?_
    refine RunL.still rfl rfl rfl (Still.assign rfl rfl) ?_
    refine RunL.nil ?_
    refine Ends.then ?_
    refine RunC.block ?_
    refine RunC.loop2 (γ := Nat) (keep := [(2, _), (3, _), (5, _), (6, _), (7, _)]) (hkeep := [_, _, _]) (fun p => p ≤ 4) (fun p => 4 - p) (fun p => [(8, iv p)]) (fun p => [HL.obj b7 (.cells (mixArr (posN s.1) (crAt d kk) p) 62 (0, 0))]) 0 (Nat.zero_le _) (Fr.Sub.cons rfl (Fr.Sub.nil _)) (Fr.Sub.cons rfl (Fr.Sub.cons rfl (Fr.Sub.cons rfl (Fr.Sub.cons rfl (Fr.Sub.cons rfl (Fr.Sub.nil _)))))) (HSub.pick 0 rfl (HSub.pick 0 rfl (HSub.pick 0 rfl (HSub.pick 0 rfl (HSub.nil _))))) ?_
    rintro p hp
    refine RunC.seq ?_
    refine RunC.seq ?_
    refine RunC.region ?_
    refine RunL.still rfl rfl rfl (Still.move rfl rfl) ?_
    refine RunL.still rfl rfl rfl (Still.lss rfl rfl rfl) ?_
    refine RunL.nil ?_
    refine Ends.then ?_
    refine RunC.cond rfl (fun h27 => ?_) (fun h27 => ?_)
    · have h27 := of_decide_eq_true h27
      have hp4 : p < 4 := by omega
      have hpa := hS.arc hkk hp4
      refine RunC.skip ?_
      refine Ends.then ?_
      refine RunC.seq ?_
      refine RunC.block ?_
      refine RunC.draw 10 (.still 0 (.still 1 (.still 2 (.still 3 (.still 4 (.still 5 (.still 6 (.still 8 (.one 7 (.still 9 .done)))))))))) (by kernel_rfl) (by kernel_rfl) ?_
      refine RunG.still rfl rfl rfl rfl (Still.move rfl rfl) ?_
      refine RunG.still rfl rfl rfl rfl (Still.fieldAddrL (off := 0) (off' := 1) rfl rfl Tryz.underlying96 rfl Tryz.sizeOf36 rfl) ?_
      refine RunG.still rfl rfl rfl rfl (Still.load rfl rfl Tryz.isAgg36 (fun _ hs => cell_nth (hs.at (i := 2) rfl) rfl)) ?_
      refine RunG.still rfl rfl rfl rfl (Still.move rfl rfl) ?_
      refine RunG.still rfl rfl rfl rfl (Still.fieldAddrL (off := 0) (off' := 0) rfl rfl Tryz.underlying62 rfl Tryz.sizeOf60 rfl) ?_
      refine RunG.still rfl rfl rfl rfl (Still.indexArrNL rfl rfl rfl Tryz.underlying60 Tryz.sizeOf3 (by omega)) ?_
      refine RunG.still rfl rfl rfl rfl (Still.load (v := iv ((((crAt d kk).arc p).toNat : Nat) : Int)) rfl rfl Tryz.isAgg3 (fun _ hs => cell_nth (hs.at (i := 0) rfl) ((mixArr_get (posN s.1) (crAt d kk) hp4).trans (congrArg (fun z => some (iv z)) (Int.toNat_of_nonneg hpa.1).symm)))) ?_
      refine RunG.still rfl rfl rfl rfl (Still.fieldAddrL (off := 0) (off' := 0) rfl rfl Tryz.underlying62 rfl Tryz.sizeOf60 rfl) ?_
      refine RunG.grows rfl rfl rfl rfl (Grows.call (vs := #[_, _]) rfl rfl Tryz.call89 (fun w hs => ref_place av s.1 ((crAt d kk).arc p).toNat w hav (Cells.base0 hca hs) (by omega) (ham kk (List.mem_of_getElem? hkk2) p hp4))) (fun _ _ => ?_)
      refine RunG.still rfl rfl rfl rfl (Still.indexArrNL rfl rfl rfl Tryz.underlying60 Tryz.sizeOf3 (by omega)) ?_
      refine RunG.done ?_
      show RunL _ _ _ [_] _ _
      refine RunL.does0 rfl rfl (Does.store1 rfl rfl rfl (i := 0) rfl Tryz.sizeOf3 rfl (Nat.ble_eq_true_of_le (show 0 + p * 1 + 1 ≤ 5 by omega))) (fun _ _ => ?_)
      refine RunL.conv (fun _ hs => hs.re 0 rfl (show _ = HL.obj b7 (.cells (mixArr (posN s.1) (crAt d kk) (p + 1)) 62 (0, 0)) from congrArg (fun z => HL.obj b7 (.cells z 62 (0, 0))) (mixArr_set (posN s.1) (crAt d kk) hp4))) ?_
      refine RunL.nil ?_
      refine Ends.block ?_
      refine Ends.then ?_
      refine RunC.region ?_
      refine RunL.still rfl rfl rfl (Still.move rfl rfl) ?_
      refine RunL.still rfl rfl rfl (Still.add rfl rfl rfl (fits64 (by omega) (by omega))) ?_
      refine RunL.still rfl rfl rfl (Still.assign rfl rfl) ?_
      refine RunL.nil ?_
      refine Ends.again (p + 1) ?_ ?_ (Fr.Sub.app ?_ ?_) ?_
      · show _; omega
      · show _ < _; omega
      · exact Fr.Sub.cons rfl (Fr.Sub.nil _)
      · exact Fr.Sub.cons rfl (Fr.Sub.cons rfl (Fr.Sub.cons rfl (Fr.Sub.cons rfl (Fr.Sub.cons rfl (Fr.Sub.nil _)))))
      · exact HSub.pick 0 rfl (HSub.pick 0 rfl (HSub.pick 0 rfl (HSub.pick 0 rfl (HSub.nil _))))
    · have h27 := of_decide_eq_false h27
      obtain rfl : p = 4 := by omega
      refine RunC.exit ?_
      refine Ends.then_exit ?_
      refine Ends.then_exit ?_
      refine Ends.block_exit ?_
      refine Ends.then ?_
      refine RunC.region ?_
      refine RunL.still rfl rfl rfl (Still.move rfl rfl) ?_
      refine RunL.still rfl rfl rfl (Still.loads rfl rfl Tryz.isAgg62 Tryz.sizeOf62 (vs := [_, _, _, _, _]) rfl (fun _ hs => cells_nth (hs.at (i := 0) rfl) ⟨rfl, ⟨rfl, ⟨rfl, ⟨rfl, ⟨rfl, trivial⟩⟩⟩⟩⟩)) ?_
      refine RunL.grows rfl rfl rfl (Grows.slice1 rfl rfl Tryz.underlying22 Tryz.sizeOf62 rfl Tryz.zeroValue62 (by decide)) (fun b42 _ => ?_)
      refine RunL.does rfl rfl rfl (Does.appendTo (n' := (j + 1)) (xs' := ((rowsTo d s (j + 1)).flatMap encCr)) (news := [_, _, _, _, _]) rfl rfl rfl rfl (i := 2) rfl Tryz.underlying22 (by kernel_rfl : (_ : Option _) = some (some (.agg #[.int .i64 0, .int .i64 0, .int .i64 0, .int .i64 0, .int .i64 0]), 5, 40)) rfl rfl (fun _ hs => cells_nth (hs.at (i := 0) rfl) ⟨rfl, ⟨rfl, ⟨rfl, ⟨rfl, ⟨rfl, trivial⟩⟩⟩⟩⟩) rfl rfl (by omega) (by omega) (rfl) ((by rw [rowsTo_step hkk2, List.flatMap_append]; rfl))) (fun v43 hv43 => ?_)
      refine RunL.still rfl rfl rfl (Still.assign rfl rfl) ?_
      refine RunL.nil ?_
      refine Ends.block ?_
      refine Ends.then ?_
      refine RunC.region ?_
      refine RunL.still rfl rfl rfl (Still.move rfl rfl) ?_
      refine RunL.still rfl rfl rfl (Still.add rfl rfl rfl (fits64 (by omega) (by omega))) ?_
      refine RunL.still rfl rfl rfl (Still.assign rfl rfl) ?_
      refine RunL.nil ?_
      refine Ends.again (v43, j + 1) ?_ ?_ (Fr.Sub.app ?_ ?_) ?_
      · show j + 1 ≤ _; omega
      · show _ - (j + 1) < _ - j; omega
      · exact Fr.Sub.cons rfl (Fr.Sub.cons rfl (Fr.Sub.nil _))
      · exact Fr.Sub.cons rfl (Fr.Sub.cons rfl (Fr.Sub.nil _))
      · exact HSub.pick 2 rfl (HSub.pick 2 rfl (HSub.pick 2 rfl (HSub.nil _)))
  · have h14 := of_decide_eq_false h14
    obtain rfl : j = s.2.length := by omega
    refine RunC.exit ?_
    refine Ends.then_exit ?_
    refine Ends.then_exit ?_
    refine Ends.block_exit ?_
    refine Ends.then ?_
    refine RunC.seq ?_
    refine RunC.region ?_
    refine RunL.still rfl rfl rfl (Still.move rfl rfl) ?_
    refine RunL.still rfl rfl rfl (Still.assign rfl rfl) ?_
    refine RunL.nil ?_
    refine Ends.then ?_
    refine RunC.ret ?_
    refine Ends.leave (.inl rfl) (fun _ _ ok => results1 Tryz.results52 (Holds.tmp rfl) ok) (fun w1 hs => ?_)
    exact Ret.intro x trivial rfl (HSub.pick 0 rfl (HSub.nil _)) hs

end Go.Proofs
/- Canonical forms, part m: lists that are orders; renumbered diagrams. -/
namespace Go.V
open Go
def sortI (xs : List Int) : List Int := xs.mergeSort fun x y => decide (x ≤ y)
theorem sortI_perm (xs : List Int) : (sortI xs).Perm xs := List.mergeSort_perm _ _
theorem sortI_len (xs : List Int) : (sortI xs).length = xs.length := (sortI_perm xs).length_eq
theorem sortI_sorted (xs : List Int) : (sortI xs).Pairwise fun x y => x ≤ y := by
  have := List.pairwise_mergeSort (le := fun x y : Int => decide (x ≤ y)) (fun a b c h k => by simp at h k ⊢; omega) (fun a b => by simp; omega) xs
  exact this.imp fun h => by simpa using h
/-- The list is a permutation of the numbers below n. -/
def ordB (xs : List Int) (n : Int) : Bool := decide (sortI xs = upTo xs.length) && decide ((xs.length : Int) = n)
theorem upTo_at {k i : Nat} (h : i < k) : (upTo k)[i]? = some (i : Int) := by simp [upTo, h]
theorem upTo_mem {k : Nat} {x : Int} : x ∈ upTo k ↔ 0 ≤ x ∧ x < k := by
  simp only [upTo, List.mem_map, List.mem_range]
  constructor
  · rintro ⟨i, hi, rfl⟩; omega
  · rintro ⟨h0, h1⟩; exact ⟨x.toNat, by omega, by omega⟩
theorem upTo_nodup (k : Nat) : (upTo k).Nodup := by
  rw [List.nodup_iff_pairwise_ne, upTo, List.pairwise_map]
  exact List.pairwise_lt_range.imp fun {a b} h e => by omega
theorem sorted_le_eq : ∀ {l m : List Int}, l.Perm m → l.Pairwise (fun a b => a ≤ b) → m.Pairwise (fun a b => a ≤ b) → l = m
  | [], _, h, _, _ => (List.nil_perm.1 h).symm
  | a :: l, [], h, _, _ => absurd (List.perm_nil.1 h) (by simp)
  | a :: l, b :: m, h, hl, hm => by
    have h1 := List.pairwise_cons.1 hl
    have h2 := List.pairwise_cons.1 hm
    have e : a = b := by
      have hb : b ∈ a :: l := h.mem_iff.2 List.mem_cons_self
      have ha : a ∈ b :: m := h.mem_iff.1 List.mem_cons_self
      rcases List.mem_cons.1 hb with k | k
      · exact k.symm
      · rcases List.mem_cons.1 ha with k2 | k2
        · exact k2
        · have := h1.1 b k; have := h2.1 a k2; omega
    subst e
    rw [sorted_le_eq (List.perm_cons a |>.1 h) h1.2 h2.2]
theorem ordB_iff {xs : List Int} {n : Nat} : ordB xs n = true ↔ xs.length = n ∧ xs.Perm (upTo n) := by
  rw [ordB, Bool.and_eq_true, decide_eq_true_eq, decide_eq_true_eq]
  constructor
  · rintro ⟨h1, h2⟩
    have e : xs.length = n := by omega
    subst e
    exact ⟨rfl, (sortI_perm xs).symm.trans (by rw [h1])⟩
  · rintro ⟨rfl, h⟩
    refine ⟨sorted_le_eq ((sortI_perm xs).trans h) (sortI_sorted xs) ?_, rfl⟩
    rw [upTo, List.pairwise_map]
    exact List.pairwise_lt_range.imp fun {a b} h => by omega
theorem ordB_mem {xs : List Int} {n : Nat} (h : ordB xs n = true) {x : Int} : x ∈ xs ↔ 0 ≤ x ∧ x < n := by
  rw [(ordB_iff.1 h).2.mem_iff, upTo_mem]
theorem ordB_nodup {xs : List Int} {n : Nat} (h : ordB xs n = true) : xs.Nodup := (ordB_iff.1 h).2.nodup_iff.2 (upTo_nodup n)
def renD (d : Dia) (xs ys : List Int) : Dia := ⟨xs.map fun k => renCr (fun a => (ys.getD a 0).toNat) (crAt d k.toNat), d.loops⟩
/-- A diagram renumbered by two orders. -/
theorem ren_of_ord {d : Dia} {xs ys : List Int} (h1 : ordB xs d.cross.length = true) (h2 : ordB ys (2 * d.cross.length : Nat) = true) : ∃ s t, Ren d (renD d xs ys) s t := by
  have l1 := (ordB_iff.1 h1).1
  have l2 := (ordB_iff.1 h2).1
  have n1 := ordB_nodup h1
  have n2 := ordB_nodup h2
  have at2 : ∀ a, a < 2 * d.cross.length → ∃ y, ys[a]? = some y ∧ 0 ≤ y ∧ y < (2 * d.cross.length : Nat) := fun a ha => by
    obtain ⟨y, hy⟩ := get_of_lt (l := ys) (i := a) (by omega)
    exact ⟨y, hy, (ordB_mem h2).1 (List.mem_of_getElem? hy)⟩
  have in1 : ∀ c, c < d.cross.length → (c : Int) ∈ xs := fun c hc => (ordB_mem h1).2 ⟨by omega, by omega⟩
  refine ⟨fun c => xs.idxOf (c : Int), fun a => (ys.getD a 0).toNat, by simp [renD, l1], rfl, fun c hc => ?_, fun c c' hc hc' e => ?_, fun a ha => ?_, fun a a' ha ha' e => ?_, fun c hc => ?_⟩
  · have := List.idxOf_lt_length_of_mem (in1 c hc); omega
  · have e1 := List.getElem_idxOf (List.idxOf_lt_length_of_mem (in1 c hc))
    have e2 := List.getElem_idxOf (List.idxOf_lt_length_of_mem (in1 c' hc'))
    have e : xs.idxOf (c : Int) = xs.idxOf (c' : Int) := e
    simp only [e] at e1
    rw [e1] at e2; omega
  · obtain ⟨y, hy, h0, hl⟩ := at2 a ha
    show (ys.getD a 0).toNat < _
    rw [List.getD_eq_getElem?_getD, hy]; simp only [Option.getD_some]; omega
  · obtain ⟨y, hy, h0, hl⟩ := at2 a ha
    obtain ⟨y', hy', h0', hl'⟩ := at2 a' ha'
    have e : (ys.getD a 0).toNat = (ys.getD a' 0).toNat := e
    rw [List.getD_eq_getElem?_getD, hy, List.getD_eq_getElem?_getD, hy'] at e
    simp only [Option.getD_some] at e
    obtain ⟨ha1, e1⟩ := List.getElem?_eq_some_iff.1 hy
    obtain ⟨ha2, e2⟩ := List.getElem?_eq_some_iff.1 hy'
    exact (List.getElem_inj n2).1 (e1.trans ((by omega : y = y').trans e2.symm))
  · have hl := List.idxOf_lt_length_of_mem (in1 c hc)
    have e1 := List.getElem_idxOf hl
    refine crAt_eq ?_
    show (xs.map _)[_]? = _
    rw [List.getElem?_map, List.getElem?_eq_getElem hl, e1]
    simp
def newA (ys : List Int) (a : Nat) : Nat := (ys.getD a 0).toNat
def rnArr (ys : List Int) (x : Cr) (p : Nat) : Array Value := #[iv (if 0 < p then (newA ys x.a0.toNat : Int) else x.a0), iv (if 1 < p then (newA ys x.a1.toNat : Int) else x.a1), iv (if 2 < p then (newA ys x.a2.toNat : Int) else x.a2), iv (if 3 < p then (newA ys x.a3.toNat : Int) else x.a3), iv x.s]
theorem rnArr_set (ys : List Int) (x : Cr) {p : Nat} (hp : p < 4) {v : Int} (hv : v = (newA ys (x.arc p).toNat : Int)) : (rnArr ys x p).setIfInBounds (0 + p * 1) (iv v) = rnArr ys x (p + 1) := by
  subst hv
  match p, hp with
  | 0, _ => rfl
  | 1, _ => rfl
  | 2, _ => rfl
  | 3, _ => rfl
def rnTo (d : Dia) (xs ys : List Int) (i : Nat) : List Cr := (xs.take i).map fun k => renCr (newA ys) (crAt d k.toNat)
theorem rnTo_len {d : Dia} {xs ys : List Int} {i : Nat} (h : i ≤ xs.length) : (rnTo d xs ys i).length = i := by simp [rnTo]; omega
theorem rnTo_succ {d : Dia} {xs ys : List Int} {i c : Nat} (h : xs[i]? = some (c : Int)) : rnTo d xs ys (i + 1) = rnTo d xs ys i ++ [renCr (newA ys) (crAt d c)] := by
  rw [rnTo, List.take_add_one, h, Option.toList_some, List.map_append, List.map_singleton, Int.toNat_natCast]; rfl
theorem rnTo_all (d : Dia) (xs ys : List Int) : rnTo d xs ys xs.length = (renD d xs ys).cross := by rw [rnTo, List.take_length]; rfl
theorem ordB_dist {xs : List Int} {n : Nat} : ordB xs n = true ↔ xs.length = n ∧ distB xs n = true := by
  rw [distB, decide_eq_true_eq]
  constructor
  · intro h
    exact ⟨(ordB_iff.1 h).1, ordB_nodup h, fun x hx => (ordB_mem h).1 hx⟩
  · rintro ⟨hl, hn, hr⟩
    refine ordB_iff.2 ⟨hl, ?_⟩
    have hsub : xs ⊆ upTo n := fun x hx => upTo_mem.2 (hr x hx)
    refine (List.perm_ext_iff_of_nodup hn (upTo_nodup n)).2 fun x => ⟨fun h => hsub h, fun h => ?_⟩
    refine Classical.byContradiction fun hno => ?_
    have h1 : (x :: xs).Nodup := List.nodup_cons.2 ⟨hno, hn⟩
    have h2 := List.Nodup.length_le_of_subset h1 (l₂ := upTo n) (fun y hy => by
      rcases List.mem_cons.1 hy with e | e
      · rw [e]; exact h
      · exact hsub e)
    rw [upTo_len] at h2; simp at h2; omega
end Go.V
/- The reference's loop over all pieces: what it holds. -/
namespace Go.V
open Go
def rowRL (a : PC) : HL := HL.own 62 5 a.1 a.2.length (a.2.flatMap encCr)
/-- A row is a slice that holds the code of some crossing. -/
structure RowOk (d : Dia) (a : PC) : Prop where
  sl : ∃ g cp, a.1 = .slice (some ⟨g, 0, none⟩) a.2.length cp
  code : ∃ x way, x < d.cross.length ∧ a.2 = codeOf d x way
theorem RowOk.len {d : Dia} (hS : SoundP d) {a : PC} (h : RowOk d a) : a.2.length ≤ d.cross.length := by
  obtain ⟨x, way, hx, e⟩ := h.code
  rw [e]; exact codeOf_le hS hx way
theorem RowOk.one {d : Dia} {a : PC} (h : RowOk d a) : a.1.oneCell' = true := by
  obtain ⟨g, cp, e⟩ := h.sl
  rw [e]; rfl
theorem RowOk.arc {d : Dia} (hS : SoundP d) {a : PC} (h : RowOk d a) {y : Cr} (hy : y ∈ a.2) {p : Nat} (hp : p < 4) : 0 ≤ y.arc p ∧ y.arc p ≤ 400 := by
  obtain ⟨x, way, hx, e⟩ := h.code
  rw [e] at hy
  have := codeOf_arc hS hx hy p hp
  have := hS.1
  omega
theorem RowOk.wf {d : Dia} (hS : SoundP d) {a : PC} (h : RowOk d a) : ∀ y ∈ a.2, y.Wf := fun y hy => by
  have h0 := h.arc hS hy (p := 0) (by decide)
  have h1 := h.arc hS hy (p := 1) (by decide)
  have h2 := h.arc hS hy (p := 2) (by decide)
  have h3 := h.arc hS hy (p := 3) (by decide)
  simp only [Cr.arc] at h0 h1 h2 h3
  obtain ⟨x, way, hx, e⟩ := h.code
  rw [e, codeOf] at hy
  obtain ⟨k, hk, rfl⟩ := List.mem_map.1 hy
  have hs := hS.sgn ((stdN_ok hS hx way).cl k hk)
  have hs' : -1 ≤ (rowOf (stdN d x way).1 (crAt d k)).s ∧ (rowOf (stdN d x way).1 (crAt d k)).s ≤ 1 := by
    show -1 ≤ (crAt d k).s ∧ (crAt d k).s ≤ 1
    omega
  exact ⟨⟨by omega, by omega⟩, ⟨by omega, by omega⟩, ⟨by omega, by omega⟩, ⟨by omega, by omega⟩, ⟨by omega, by omega⟩⟩
structure InvC (d : Dia) (c : Nat) (ps az : List PC) : Prop where
  can : ∃ rs, CanP d c rs ∧ (ps.map Prod.snd).Perm (rs.map Prod.snd)
  ord : (ps.map Prod.snd).Pairwise fun a b => ¬ ltC b a
  mem : ∀ a ∈ ps, a ∈ az
theorem InvC.zero (d : Dia) : InvC d 0 [] [] := ⟨⟨[], CanP.zero d, List.Perm.refl _⟩, List.Pairwise.nil, fun a h => by cases h⟩
theorem InvC.skip {d : Dia} (hS : SoundP d) {c h : Nat} {ps az : List PC} (hI : InvC d c ps az) (hc : c < d.cross.length) (hh : (pieceOf d c)[0]? = some h) (hne : h ≠ c) : InvC d (c + 1) ps az :=
  ⟨let ⟨rs, h1, h2⟩ := hI.can; ⟨rs, h1.skip hS hc hh hne, h2⟩, hI.ord, hI.mem⟩
theorem InvC.add {d : Dia} (hS : SoundP d) {c : Nat} {ps qs az : List PC} {b : PC} (hI : InvC d c ps az) (hc : c < d.cross.length) (hh : (pieceOf d c)[0]? = some c) (hm : IsMin d c b.2) (hq : qs.Perm (ps ++ [b])) (ho : InsAt (qs.map Prod.snd) 0) {az' : List PC} (haz : ∀ a ∈ az, a ∈ az') (hb : b ∈ az') : InvC d (c + 1) qs az' :=
  ⟨let ⟨rs, h1, h2⟩ := hI.can; ⟨rs ++ [(c, b.2)], h1.add hS hc hh hm, (hq.map Prod.snd).trans (by rw [List.map_append, List.map_append]; exact h2.append_right _)⟩, ho.end_, fun a ha => by
    rcases List.mem_append.1 (hq.mem_iff.1 ha) with k | k
    · exact haz a (hI.mem a k)
    · rw [List.mem_singleton.1 k]; exact hb⟩
theorem InvC.done {d : Dia} {ps az : List PC} (h : InvC d d.cross.length ps az) : IsCan d (ps.map Prod.snd) := ⟨let ⟨rs, h1, h2⟩ := h.can; ⟨rs, h1.done, h2⟩, h.ord⟩
theorem InsAt.swapP {L : List PC} {i : Nat} {p q : PC} (h : InsAt (L.map Prod.snd) (i + 1)) (hp : L[i]? = some p) (hq : L[i + 1]? = some q) (hl : ltC q.2 p.2) : InsAt (((L.set (i + 1) p).set i q).map Prod.snd) i := by
  rw [List.map_set, List.map_set]
  exact h.swap (by rw [List.getElem?_map, hp]; rfl) (by rw [List.getElem?_map, hq]; rfl) hl
theorem InsAt.stayP {L : List PC} {i : Nat} {p q : PC} (h : InsAt (L.map Prod.snd) (i + 1)) (hp : L[i]? = some p) (hq : L[i + 1]? = some q) (hl : ¬ ltC q.2 p.2) : InsAt (L.map Prod.snd) i :=
  h.stay (p := p.2) (q := q.2) (by rw [List.getElem?_map, hp]; rfl) (by rw [List.getElem?_map, hq]; rfl) hl
theorem InsAt.startP {L : List PC} {b : PC} (h : (L.map Prod.snd).Pairwise fun a b => ¬ ltC b a) : InsAt ((L ++ [b]).map Prod.snd) L.length := by
  have := InsAt.start (m := b.2) h
  rwa [List.length_map, ← List.map_singleton (f := Prod.snd) (a := b), ← List.map_append] at this
theorem flatTo_sub (bs : List PC) (i : Nat) : ∀ x ∈ flatTo bs i, x ∈ flatC 0 (bs.map Prod.snd) := by
  have app : ∀ (L M : List (List Cr)) (k : Nat), ∃ r, flatC k (L ++ M) = flatC k L ++ r := fun L M => by
    induction M generalizing L with
    | nil => exact fun k => ⟨[], by simp⟩
    | cons m M ih =>
      intro k
      obtain ⟨r, hr⟩ := ih (L ++ [m]) k
      rw [show L ++ m :: M = (L ++ [m]) ++ M by simp, hr, flatC_snoc, List.append_assoc]
      exact ⟨_, rfl⟩
  intro x hx
  have e : bs.map Prod.snd = (bs.take i).map Prod.snd ++ (bs.drop i).map Prod.snd := by rw [← List.map_append, List.take_append_drop]
  obtain ⟨r, hr⟩ := app ((bs.take i).map Prod.snd) ((bs.drop i).map Prod.snd) 0
  rw [e, hr]
  exact List.mem_append.2 (.inl hx)
theorem can_len {d : Dia} (hS : SoundP d) {L : List (List Cr)} (h : IsCan d L) : (flatC 0 L).length = d.cross.length := by
  obtain ⟨s, t, r⟩ := can_ren hS h
  exact r.len
theorem can_wf {d : Dia} (hS : SoundP d) {L : List (List Cr)} (h : IsCan d L) : ∀ x ∈ flatC 0 L, x.Wf := by
  obtain ⟨s, t, r⟩ := can_ren hS h
  exact (wf_of_sound (r.sound hS)).1
theorem std_arcs {d : Dia} (hS : SoundP d) {c : Nat} (hc : c < d.cross.length) (way : Nat) : ∀ k, k ∈ (stdN d c way).2 → ∀ p, p < 4 → ((crAt d k).arc p).toNat ∈ (stdN d c way).1 := fun k hk p hp => by
  have hkl := (stdN_ok hS hc way).cl k hk
  have h := (stdN_all hS hc way).any_arc hS (q := 4 * k + p) (by omega) (by rw [show (4 * k + p) / 4 = k by omega]; exact hk)
  rwa [show arcQ d (4 * k + p) = (crAt d k).arc p by rw [arcQ, show (4 * k + p) / 4 = k by omega, show (4 * k + p) % 4 = p by omega]] at h
theorem rowsTo_code {d : Dia} (c way : Nat) : rowsTo d (stdN d c way) (stdN d c way).2.length = codeOf d c way := rowsTo_all d _
theorem uni_step {d : Dia} {ps : List PC} {i : Nat} {a : PC} (h : ps[i]? = some a) : uniD ⟨flatTo ps i, d.loops⟩ ⟨a.2, 0⟩ = ⟨flatTo ps (i + 1), d.loops⟩ := by
  rw [uniD, flatTo_succ h]
  simp
end Go.V
/- The proof layer: regions that draw their order, step by step, with as many ready operations as there may be: what looks comes first, then what makes memory and stores into it. -/
namespace Go.V
open Go
section drawm
variable {C : Cx} {Q : Exit → Act → World → Prop} {F : Fr} {L : List HL} {l : List Oper} {o : Oper} {n g f i : Nat} {ns : List Nat} {S : Array Bool}
/-- What the head leaves: the rest in the order of the text. -/
def EndM (C : Cx) (Q : Exit → Act → World → Prop) (l : List Oper) (n : Nat) (S : Array Bool) (a : Act) (w : World) : Prop := Region.seqB .any l.toArray (l.toArray.size - n) n S = true ∧ wpListIn (FW C.r) 0 C.P l.toArray Q (l.drop n) a w
structure HeadM (l : List Oper) (n : Nat) : Prop where
  sel : Region.noSelect l.toArray = true
  dfr : noDefer l.toArray = true
  lt : n < l.toArray.size
  snk : Region.sinkB .any l.toArray n = true
  chn : Region.chainB .any l.toArray n = true
def headMB (ops : Array Oper) (n : Nat) : Bool := Region.noSelect ops && noDefer ops && Nat.blt n ops.size && Region.sinkB .any ops n && Region.chainB .any ops n
def RunM (C : Cx) (Q : Exit → Act → World → Prop) (l : List Oper) (n f : Nat) (S : Array Bool) (ns : List Nat) (F : Fr) (L : List HL) : Prop :=
  ∀ a w B, HeadM l n → Old Nil B w → (∀ b ∈ ns, B.heap.size ≤ b) → HeadInv .any l.toArray n S → Ok C F L a w → wpHeadB C.r C.P .any l.toArray n B (EndM C Q l n) f S a w
def RunM0 (C : Cx) (Q : Exit → Act → World → Prop) (l : List Oper) (n f : Nat) (S : Array Bool) (F : Fr) (L : List HL) : Prop :=
  ∀ a w, HeadM l n → HeadInv .any l.toArray n S → Ok C F L a w → wpHeadB C.r C.P .any l.toArray n w (EndM C Q l n) f S a w
def StepM (C : Cx) (Q : Exit → Act → World → Prop) (l : List Oper) (n f : Nat) (S : Array Bool) (ns : List Nat) (i : Nat) (F : Fr) (L : List HL) : Prop :=
  ∀ a w B, HeadM l n → Old Nil B w → (∀ b ∈ ns, B.heap.size ≤ b) → HeadInv .any l.toArray n (S.setIfInBounds i true) → Ok C F L a w →
    wpOpIn (FW C.r) 0 C.P l.toArray NoQ i (fun a' w' => Old Nil B w' ∧ wpHeadB C.r C.P .any l.toArray n B (EndM C Q l n) f (S.setIfInBounds i true) a' w') a w
theorem RunC.drawM {id : Nat} (n : Nat) (hm : C.P.follows .mixedOrders = true) (hB : headMB l.toArray n = true) (h : RunM0 C Q l n n (Array.replicate l.toArray.size false) F L) : RunC C (.region id l.toArray true) Q F L := fun a w ok => by
  simp only [headMB, Bool.and_eq_true] at hB
  obtain ⟨⟨⟨⟨hsel, hdef⟩, hn⟩, hs⟩, hc⟩ := hB
  have hn' : n < l.toArray.size := by simpa using hn
  have inv0 : HeadInv .any l.toArray n (Array.replicate l.toArray.size false) :=
    ⟨by simp, fun j oj _ hl => (by rw [getD_replicate_false] at hl; cases hl), fun t _ ht => getD_in (by simpa using ht) (getD_replicate_false _ _)⟩
  have H := h a w.drew ⟨hsel, hdef, hn', hs, hc⟩ inv0 ⟨ok.fr, ok.sym.drew⟩
  refine wpIn_region_any hm ?_
  have hdl : (l.drop n).length = l.toArray.size - n := by simp
  have := wpAny_of_headB (Q := Q) (g := l.toArray.size - n) (fun listed a' w' hL => by
    have := wpAny_of_seq' (r := C.r) (P := C.P) (md := .any) (Q := Q) (l.drop n) n listed a' w' (fun j => by simp [List.getElem?_drop]) (by rw [hdl]; exact hL.1) hL.2
    rwa [hdl] at this) _ _ _ _ H
  rw [show n + (l.toArray.size - n) = l.toArray.size by omega] at this
  exact this
theorem RunM0.news (h : RunM C Q l n f S [] F L) : RunM0 C Q l n f S F L := fun a w hh inv ok => h a w w hh (Old.refl _ w) (fun _ h => by cases h) inv ok
theorem RunM0.still {d : Nat} {v : Value} (ho : l.toArray[i]? = some o) (hw : wants l.toArray F o = some true) (hd : o.dst = some d) (hn : Nat.blt d C.n = true) (hs : Still C o F L v) (hr : (Region.ready .any l.toArray S).contains i = true) (hf : Region.free .any l.toArray S i = true) (hin : Nat.blt i n = true)
    (h : RunM0 C Q l n f (S.setIfInBounds i true) ((d, v) :: F) L) : RunM0 C Q l n (f + 1) S F L := fun a w hh inv ok => by
  have hin' : i < n := by simpa using hin
  have hr' : i ∈ Region.ready .any l.toArray S := by simpa using hr
  refine wpHeadB_first ho hh.sel hh.dfr hh.snk hh.chn hh.lt hin' (fun listed' a' w' hL => seqB_ready hL.1) f S a w inv (Region.free_spec ho hf) hr' (.inl ⟨wants_ok ok hw, fun w' hold => hs.2 a w' ⟨ok.fr, ok.sym.grow0 hold⟩⟩) (Old.refl _ w) ?_
  refine h _ w hh (inv.set hr' hin') ?_
  rw [hd]
  exact ⟨ok.fr.put (by simpa using hn) v, ok.sym⟩
theorem RunM.pure {d : Nat} {v : Value} (ho : l.toArray[i]? = some o) (hw : wants l.toArray F o = some true) (hd : o.dst = some d) (hn : Nat.blt d C.n = true) (hs : ∀ w0, Still { C with w0 := w0 } o F [] v) (hr : (Region.ready .any l.toArray S).contains i = true) (hf : Region.free .any l.toArray S i = true) (hin : Nat.blt i n = true)
    (h : RunM C Q l n f (S.setIfInBounds i true) ns ((d, v) :: F) L) : RunM C Q l n (f + 1) S ns F L := fun a w B hh hO hns inv ok => by
  have hin' : i < n := by simpa using hin
  have hr' : i ∈ Region.ready .any l.toArray S := by simpa using hr
  refine wpHeadB_first ho hh.sel hh.dfr hh.snk hh.chn hh.lt hin' (fun listed' a' w' hL => seqB_ready hL.1) f S a w inv (Region.free_spec ho hf) hr' (.inl ⟨wants_ok ok hw, fun w' hold => (hs w').2 a w' ⟨ok.fr, Sym.nil w' C.S⟩⟩) hO ?_
  refine h _ w B hh hO hns (inv.set hr' hin') ?_
  rw [hd]
  exact ⟨ok.fr.put (by simpa using hn) v, ok.sym⟩
theorem RunM.pick (k : List Nat) (hr : Region.ready .any l.toArray S = k) (hk : k.all (fun i => Nat.blt i n) = true) (hne : k.isEmpty = false) (h : ∀ i ∈ k, StepM C Q l n f S ns i F L) : RunM C Q l n (f + 1) S ns F L := fun a w B hh hO hns inv ok => by
  refine ⟨fun e => ?_, fun i hi => ?_⟩
  · rw [hr] at e; subst e; cases hne
  · have hik : i ∈ k := hr ▸ hi
    have hin : i < n := by simpa using List.all_eq_true.1 hk i hik
    exact ⟨hin, h i hik a w B hh hO hns (inv.set hi hin) ok⟩
theorem RunM.done (hq : Region.seqB .any l.toArray (l.toArray.size - n) n S = true) (h : RunL C l.toArray Q (l.drop n) F L) : RunM C Q l n 0 S ns F L := fun a w _ _ _ _ _ ok => ⟨hq, h a w ok⟩
theorem StepM.grows {d : Nat} {γ : Type} {φ : γ → Prop} {V : γ → Value} {H : γ → List HL} (ho : l.toArray[i]? = some o) (hw : wants l.toArray F o = some true) (hd : o.dst = some d) (hn : Nat.blt d C.n = true) (hg : Grows C o F L φ V H)
    (h : ∀ g, φ g → RunM C Q l n f (S.setIfInBounds i true) ns ((d, V g) :: F) (H g ++ L)) : StepM C Q l n f S ns i F L := fun a w B hh hO hns inv ok => by
  unfold wpOpIn
  simp only [ho, wants_ok ok hw, if_true]
  refine hg a w ok _ _ (fun g w' hφ hold hs => ⟨hO.trans hold, h g hφ _ w' B hh (hO.trans hold) hns inv ?_⟩)
  rw [hd]
  exact ⟨ok.fr.put (by simpa using hn) _, hs⟩
theorem StepM.alloc {d : Nat} {t : TypeId} {z : Value} (ho : l.toArray[i]? = some o) (hw : wants l.toArray F o = some true) (hd : o.dst = some d) (hn : Nat.blt d C.n = true) (hop : o.op = .alloc t) (hz : ∀ w, (zeroValue t).run C.P w = .ok z w)
    (h : ∀ b, RunM C Q l n f (S.setIfInBounds i true) (b :: ns) ((d, .pointer (some ⟨b, 0, none⟩)) :: F) (HL.obj b (.cells z.cells t (0, 0)) :: L)) : StepM C Q l n f S ns i F L := fun a w B hh hO hns inv ok => by
  unfold wpOpIn
  simp only [ho, wants_ok ok hw, if_true]
  have hr : (execOp a.eval o).run C.P w = .ok (.value (.pointer (some ⟨w.heap.size, 0, none⟩))) (w.alloc (.cells z.cells t (0, 0))) := by simp [execOp, hop, Instr.alloc, hz, newVar, newRow]
  refine wpIn_value (fun c h => (by rw [hop] at h; cases h)) hr ?_
  have hO2 := hO.trans (Old.alloc Nil w (.cells z.cells t (0, 0)))
  refine ⟨hO2, h w.heap.size _ _ B hh hO2 (fun b hb => ?_) inv ?_⟩
  · rcases List.mem_cons.1 hb with rfl | hb
    · exact hO.size
    · exact hns b hb
  · rw [hd]
    exact ⟨ok.fr.put (by simpa using hn) _, ok.sym.alloc _⟩
theorem StepM.store {t : TypeId} {x y : Operand} {m b k p : Nat} {cs : Array Value} {e : TypeId} {v : Value} (ho : l.toArray[i]? = some o) (hw : wants l.toArray F o = some true) (hd : o.dst = none) (hop : o.op = .store t x y) (hx : F.ev x = some (.pointer (some ⟨b, k, none⟩))) (hy : F.ev y = some v)
    (hi : L[m]? = some (HL.obj b (.cells cs e (0, 0)))) (hz : ∀ w, (sizeOf t).run C.P w = .ok p w) (hn : v.cells.size = p) (hk : Nat.ble (k + p) cs.size = true) (h1 : v.cells.toList.all Value.oneCell' = true) (hb : b ∈ ns)
    (h : RunM C Q l n f (S.setIfInBounds i true) ns F (L.set m (HL.obj b (.cells (putAll cs k v.cells.toList) e (0, 0))))) : StepM C Q l n f S ns i F L := fun a w B hh hO hns inv ok => by
  unfold wpOpIn
  simp only [ho, wants_ok ok hw, if_true]
  obtain ⟨w', hr, hh2, hold, hsz⟩ := run_storeCells_own (P := C.P) v.cells.toList 0 k cs w (ok.sym.at hi) (by have := Nat.le_of_ble_eq_true hk; simp [hn]; omega) (List.all_eq_true.1 h1)
  simp only [Nat.add_zero] at hh2
  refine wpIn_skip' (fun c h => (by rw [hop] at h; cases h)) (w' := w') ?_ ?_
  · simp only [execOp, hop, ok.fr.ev hx, ok.fr.ev hy]
    simp [Instr.storeAt, Instr.sureAddr, storeVar, hn, hz, hr]
  · have hO2 : Old Nil B w' := ⟨hold.os.trans hO.os, hold.tape.trans hO.tape, hold.output.trans hO.output, Nat.le_trans hO.size hold.size, fun c hc hn' => (hold.block c (Nat.lt_of_lt_of_le hc hO.size) (fun e => by
      have e : c = b := e
      have := hns b hb
      omega)).trans (hO.block c hc hn'), fun f => Nat.le_trans (hO.more f) (hold.more f)⟩
    refine ⟨hO2, h _ w' B hh hO2 hns inv ?_⟩
    rw [hd]
    exact ⟨ok.fr, ok.sym.turn hi (fun c hc => ⟨.inl hc, by have e : c = b := hc; subst e; rw [hsz]; exact ok.sym.lt hi⟩) hold hh2⟩
end drawm
end Go.V
/- The reference: the canonical form. -/
namespace Go.Proofs
open Go Go.V
set_option maxRecDepth 20000
theorem pc_get {l : List Nat} {i c : Nat} (h : l[i]? = some c) : (l.map Int.ofNat)[i]? = some (c : Int) := by simp [h]
theorem ref_NumStd (base : Option Addr) (A : Addr) (cap : Nat) (d : Dia) (cv av : Value) (c way : Nat) (w : World) (hd : DiaAt w base A d) (hS : SoundP d) (hc : c < d.cross.length) (hcv : Shape cv (stdN d c way).2.length) (hcc : Cells w (vaddr cv) (ints (nI (stdN d c way).2))) (hav : Shape av (stdN d c way).1.length) (hca : Cells w (vaddr av) (ints (nI (stdN d c way).1))) : Gives Tryz.prog 52 #[diaV base cap d, .agg #[cv, av]] w Nil (fun _ : Value => True) (fun v => v) (fun v => [HL.own 62 5 v (codeOf d c way).length ((codeOf d c way).flatMap encCr)]) := by
  have h := ref_Numbered base A cap d cv av (stdN d c way) w hd hS (stdN_ok hS hc way) (std_arcs hS hc way) hcv hcc hav hca
  rwa [rowsTo_code, ← codeOf_len] at h
theorem ref_UniStep (xb : Option Addr) (xc : Nat) (d : Dia) (hS : SoundP d) (ps : List PC) (i : Nat) (g : Nat) (am : List Cr) (ac : Nat) (w : World) (ha : ps[i]? = some (.slice (some ⟨g, 0, none⟩) am.length ac, am)) (hR : RowOk d (.slice (some ⟨g, 0, none⟩) am.length ac, am)) (hcan : IsCan d (ps.map Prod.snd)) (hxb : 0 < (flatTo ps i).length → xb = some (vaddr (.slice xb (flatTo ps i).length xc))) (hx : Cells w (vaddr (.slice xb (flatTo ps i).length xc)) ((flatTo ps i).flatMap encCr)) (hm : Cells w ⟨g, 0, none⟩ (am.flatMap encCr)) :
    Gives Tryz.prog 55 #[.agg #[.slice xb (flatTo ps i).length xc, iv d.loops], .agg #[.slice (some ⟨g, 0, none⟩) am.length ac, iv 0]] w Nil (fun q : Option Addr × Nat => OKB q (flatTo ps (i + 1)).length) (fun q => .tuple #[.agg #[.slice q.1 (flatTo ps (i + 1)).length q.2, iv d.loops], iv 0]) (fun q => [HL.own 62 5 (.slice q.1 (flatTo ps (i + 1)).length q.2) (flatTo ps (i + 1)).length ((flatTo ps (i + 1)).flatMap encCr)]) := by
  have h200 := hS.1
  have htot := can_len hS hcan
  have h1 := flatTo_le ps (i + 1)
  have h0 := flatTo_le ps i
  have hl := hR.len hS
  have hsum : (flatTo ps (i + 1)).length = (flatTo ps i).length + am.length := by rw [flatTo_succ ha, List.length_append, List.length_map]
  have hl : am.length ≤ d.cross.length := hl
  have lo0 := hS.2.1
  have lo1 := hS.2.2.1
  have h := ref_UnionW xb (vaddr (.slice xb (flatTo ps i).length xc)) xc ⟨flatTo ps i, d.loops⟩ (some ⟨g, 0, none⟩) ⟨g, 0, none⟩ ac ⟨am, 0⟩ w
    (DiaAt.of_cells hxb hx (by show (flatTo ps i).length ≤ _; omega) (fun x hx => can_wf hS hcan x (flatTo_sub ps i x hx)) ⟨by show _ ≤ d.loops; omega, by show d.loops ≤ _; omega⟩)
    (DiaAt.of_cells (fun _ => rfl) hm (by show am.length ≤ _; omega) (fun x hx => hR.wf hS x hx) ⟨by show -9223372036854775808 ≤ (0 : Int); decide, by show (0 : Int) ≤ 9223372036854775807; decide⟩)
    ⟨by show (flatTo ps i).length ≤ 200; omega, ⟨lo0, lo1⟩, by show am.length ≤ 200; omega, ⟨Int.le_refl 0, by show (0 : Int) ≤ 200; decide⟩, fun x hx p hp => hR.arc hS hx hp⟩
    (fun k => k.elim (fun k => by have k : 200 < (flatTo ps i).length + am.length := k; omega) (fun k => by have k : 200 < d.loops + 0 := k; omega))
  rw [uni_step ha] at h
  exact h

theorem ref_Canonical (base : Option Addr) (A : Addr) (cap : Nat) (d : Dia) (w : World) (hd : DiaAt w base A d) (hS : SoundP d) : Gives Tryz.prog 17 #[diaV base cap d] w Nil (fun g : (Option Addr × Nat) × List (List Cr) => OKB g.1 (canF d g.2).cross.length ∧ IsCan d g.2) (fun g => diaV g.1.1 g.1.2 (canF d g.2)) (fun g => [ownD g.1 (canF d g.2)]) := by
  have h200 := hS.1
  refine fn_of_run (S := Nil) (args := [diaV base cap d]) (n := 119) (L := []) Tryz.func17 rfl Tryz.ntmps17 (Nat.le_of_ble_eq_true rfl) (Sym.nil _ _) ?_
  change RunC _ _ _ [(0, _)] _
  refine RunC.seq ?_
  refine RunC.region ?_
  refine RunL.grows rfl rfl rfl (Grows.box rfl rfl) (fun b1 _ => ?_)
  refine RunL.grows rfl rfl rfl (Grows.alloc rfl Tryz.zeroValue24) (fun b2 _ => ?_)
  refine RunL.nil ?_
  refine Ends.then ?_
  refine RunC.seq ?_
  refine RunC.region ?_
  refine RunL.grows rfl rfl rfl (Grows.empty rfl Tryz.underlying92 Tryz.sizeOf22 Tryz.zeroValue22) (fun b16 _ => ?_)
  refine RunL.still rfl rfl rfl (Still.assign rfl rfl) ?_
  refine RunL.nil ?_
  refine Ends.then ?_
  refine RunC.seq ?_
  refine RunC.seq ?_
  refine RunC.conv (fun _ hs => hs.rows_nil rowRL) ?_
  refine RunC.region ?_
  refine RunL.still rfl rfl rfl (Still.assign rfl rfl) ?_
  refine RunL.nil ?_
  refine Ends.then ?_
  refine RunC.block ?_
  refine RunC.loop2 (γ := Value × List PC × List PC × Nat) (keep := [(1, _), (2, _)]) (hkeep := [_, _]) (fun (pv, ps, az, c) => c ≤ d.cross.length ∧ InvC d c ps az ∧ (∀ a ∈ az, RowOk d a) ∧ ps.length ≤ c) (fun (pv, ps, az, c) => d.cross.length - c) (fun (pv, ps, az, c) => [(3, pv), (4, iv c)]) (fun (pv, ps, az, c) => [HL.own 22 1 pv ps.length (ps.map Prod.fst), HL.rows rowRL az]) (.slice (some ⟨b16, 0, none⟩) 0 0, [], [], 0) ⟨Nat.zero_le _, InvC.zero d, (fun a h => by cases h), Nat.le_refl _⟩ (Fr.Sub.cons rfl (Fr.Sub.cons rfl (Fr.Sub.nil _))) (Fr.Sub.cons rfl (Fr.Sub.cons rfl (Fr.Sub.nil _))) (HSub.pick 1 rfl (HSub.pick 0 rfl (HSub.pick 0 rfl (HSub.pick 0 rfl (HSub.nil _))))) ?_
  rintro ⟨pv, ps, az, c⟩ ⟨hcl, hI, haz, hpsl⟩
  have hcl : c ≤ d.cross.length := hcl
  have hI : InvC d c ps az := hI
  have hpsl : ps.length ≤ c := hpsl
  refine RunC.seq ?_
  refine RunC.seq ?_
  refine RunC.region ?_
  refine RunL.still rfl rfl rfl (Still.move rfl rfl) ?_
  refine RunL.still rfl rfl rfl (Still.fieldAddrL (off := 0) (off' := 0) rfl rfl Tryz.underlying24 rfl Tryz.sizeOf22 rfl) ?_
  refine RunL.still rfl rfl rfl (Still.load rfl rfl Tryz.isAgg22 (fun _ hs => cell_nth (hs.at (i := 3) rfl) rfl)) ?_
  refine RunL.still rfl rfl rfl (Still.lenSlice rfl rfl Tryz.underlying22) ?_
  refine RunL.still rfl rfl rfl (Still.lss rfl rfl rfl) ?_
  refine RunL.nil ?_
  refine Ends.then ?_
  refine RunC.cond rfl (fun h21 => ?_) (fun h21 => ?_)
  · have h21 := of_decide_eq_true h21
    have hcN : c < d.cross.length := by omega
    have hpl : 0 < (pieceOf d c).length := List.length_pos_of_mem (piece_self hcN)
    obtain ⟨h, hh⟩ := get_of_lt (l := pieceOf d c) (i := 0) hpl
    have hpl2 : (pieceOf d c).length ≤ d.cross.length := piece_len d c
    refine RunC.skip ?_
    refine Ends.then ?_
    refine RunC.seq ?_
    refine RunC.block ?_
    refine RunC.seq ?_
    refine RunC.region ?_
    refine RunL.still rfl rfl rfl (Still.loads rfl rfl Tryz.isAgg24 Tryz.sizeOf24 (vs := [_, _]) rfl (fun _ hs => cells_nth (hs.at (i := 3) rfl) ⟨rfl, ⟨rfl, trivial⟩⟩)) ?_
    refine RunL.still rfl rfl rfl (Still.move rfl rfl) ?_
    refine RunL.grows rfl rfl rfl (Grows.call (vs := #[_, _]) rfl rfl Tryz.call51 (fun w hs => ref_Piece base A cap d c w (hd.sym hs) hS hcN)) (fun v26 _ => ?_)
    refine RunL.still rfl rfl rfl (Still.assign rfl rfl) ?_
    refine RunL.nil ?_
    refine Ends.then ?_
    refine RunC.seq ?_
    refine RunC.seq ?_
    refine RunC.region ?_
    refine RunL.still rfl rfl rfl (Still.move rfl rfl) ?_
    refine RunL.still rfl rfl rfl (Still.indexOwnI (m := 0) rfl rfl rfl Tryz.underlying36 Tryz.sizeOf3 (fun _ hs => hs.own (i := 0) rfl) (rfl) (by omega)) ?_
    refine RunL.still rfl rfl rfl (Still.load rfl rfl Tryz.isAgg3 (fun w hs => own_at (hs.own (i := 0) rfl) (ints_get (pc_get hh)))) ?_
    refine RunL.still rfl rfl rfl (Still.move rfl rfl) ?_
    refine RunL.still rfl rfl rfl (Still.neq rfl rfl rfl) ?_
    refine RunL.nil ?_
    refine Ends.then ?_
    refine RunC.cond rfl (fun h31 => ?_) (fun h31 => ?_)
    · have h31 := of_decide_eq_true h31
      have hne : h ≠ c := by omega
      refine RunC.exit ?_
      refine Ends.then_exit ?_
      refine Ends.block_exit ?_
      refine Ends.then ?_
      refine RunC.region ?_
      refine RunL.still rfl rfl rfl (Still.move rfl rfl) ?_
      refine RunL.still rfl rfl rfl (Still.add rfl rfl rfl (fits64 (by omega) (by omega))) ?_
      refine RunL.still rfl rfl rfl (Still.assign rfl rfl) ?_
      refine RunL.nil ?_
      refine Ends.again (pv, ps, az, c + 1) ?_ ?_ (Fr.Sub.app ?_ ?_) ?_
      · exact ⟨by show c + 1 ≤ _; omega, hI.skip hS hcN hh hne, haz, by show ps.length ≤ c + 1; omega⟩
      · show _ - (c + 1) < _ - c; omega
      · exact Fr.Sub.cons rfl (Fr.Sub.cons rfl (Fr.Sub.nil _))
      · exact Fr.Sub.cons rfl (Fr.Sub.cons rfl (Fr.Sub.nil _))
      · exact HSub.pick 1 rfl (HSub.pick 1 rfl (HSub.pick 1 rfl (HSub.pick 1 rfl (HSub.nil _))))
    · have h31 := of_decide_eq_false h31
      have he : h = c := by omega
      rw [he] at hh
      refine RunC.skip ?_
      refine Ends.then ?_
      refine RunC.seq ?_
      refine RunC.draw 4 (.still 0 (.still 1 (.still 2 (.one 3 .done)))) (by kernel_rfl) (by kernel_rfl) ?_
      refine RunG.still rfl rfl rfl rfl (Still.loads rfl rfl Tryz.isAgg24 Tryz.sizeOf24 (vs := [_, _]) rfl (fun _ hs => cells_nth (hs.at (i := 4) rfl) ⟨rfl, ⟨rfl, trivial⟩⟩)) ?_
      refine RunG.still rfl rfl rfl rfl (Still.loads rfl rfl Tryz.isAgg24 Tryz.sizeOf24 (vs := [_, _]) rfl (fun _ hs => cells_nth (hs.at (i := 4) rfl) ⟨rfl, ⟨rfl, trivial⟩⟩)) ?_
      refine RunG.still rfl rfl rfl rfl (Still.move rfl rfl) ?_
      refine RunG.grows rfl rfl rfl rfl (Grows.call (vs := #[_, _, _]) rfl rfl Tryz.call53 (fun w hs => ref_Standard base A cap d c 0 w (hd.sym hs) hS hcN)) (fun ⟨cv0, av0⟩ _ => ?_)
      refine RunG.done ?_
      show RunL _ _ _ [_, _] _ _
      refine RunL.grows rfl rfl rfl (Grows.call (vs := #[_, _]) rfl rfl Tryz.call52 (fun w hs => ref_NumStd base A cap d cv0 av0 c 0 w (hd.sym hs) hS hcN (own_shape (hs.own (i := 0) rfl)) (own_all (hs.own (i := 0) rfl)) (own_shape (hs.own (i := 1) rfl)) (own_all (hs.own (i := 1) rfl)))) (fun v36 _ => ?_)
      refine RunL.still rfl rfl rfl (Still.assign rfl rfl) ?_
      refine RunL.nil ?_
      refine Ends.then ?_
      refine RunC.seq ?_
      refine RunC.seq ?_
      refine RunC.know (fun _ hs => own_open (hs.own (i := 0) rfl) (codeOf_pos hS hcN 0)) (fun hop => ?_)
      obtain ⟨ng, nc, hnb, _⟩ := hop
      refine RunC.region ?_
      refine RunL.still rfl rfl rfl (Still.assign rfl rfl) ?_
      refine RunL.conv (fun _ hs => Sym.rows_push (mk := rowRL) (a := (v36, codeOf d c 0)) (hs.sub (HSub.pick 0 rfl (HSub.pick 4 rfl (HSub.pick 0 rfl (HSub.pick 0 rfl (HSub.pick 0 rfl (HSub.pick 0 rfl (HSub.pick 0 rfl (HSub.pick 0 rfl (HSub.nil _))))))))))) ?_
      refine RunL.nil ?_
      refine Ends.then ?_
      refine RunC.block ?_
      refine RunC.loop2 (γ := PC × List PC × Nat) (keep := [(1, _), (2, _), (3, _), (4, _), (5, _)]) (hkeep := [_, _, _, _, _, _]) (fun (b, az2, k) => k ≤ (pieceOf d c).length ∧ BestC d c (2 * k) b.2 ∧ b ∈ az2 ∧ (∀ a ∈ az2, RowOk d a) ∧ ∀ a ∈ az, a ∈ az2) (fun (b, az2, k) => (pieceOf d c).length - k) (fun (b, az2, k) => [(6, b.1), (7, iv k)]) (fun (b, az2, k) => [HL.rows rowRL az2]) ((v36, codeOf d c 0), az ++ [(v36, codeOf d c 0)], 0) ⟨Nat.zero_le _, BestC.zero d c, List.mem_append.2 (.inr (List.mem_singleton.2 rfl)), (fun a h => (List.mem_append.1 h).elim (haz a) (fun e => by rw [List.mem_singleton.1 e]; exact ⟨⟨ng, nc, hnb⟩, ⟨c, 0, hcN, rfl⟩⟩)), fun a h => List.mem_append.2 (.inl h)⟩ (Fr.Sub.cons rfl (Fr.Sub.cons rfl (Fr.Sub.nil _))) (Fr.Sub.cons rfl (Fr.Sub.cons rfl (Fr.Sub.cons rfl (Fr.Sub.cons rfl (Fr.Sub.cons rfl (Fr.Sub.nil _)))))) (HSub.pick 0 rfl (HSub.pick 0 rfl (HSub.pick 0 rfl (HSub.pick 0 rfl (HSub.pick 0 rfl (HSub.pick 0 rfl (HSub.pick 0 rfl (HSub.nil _)))))))) ?_
      rintro ⟨b, az2, k⟩ ⟨hkl, hB, hb, haz, hsub⟩
      have hkl : k ≤ (pieceOf d c).length := hkl
      have hB : BestC d c (2 * k) b.2 := hB
      have hb : b ∈ az2 := hb
      refine RunC.seq ?_
      refine RunC.seq ?_
      refine RunC.region ?_
      refine RunL.still rfl rfl rfl (Still.move rfl rfl) ?_
      refine RunL.still rfl rfl rfl (Still.move rfl rfl) ?_
      refine RunL.still rfl rfl rfl (Still.lenOwn rfl rfl Tryz.underlying36 (fun _ hs => hs.own (i := 3) rfl)) ?_
      refine RunL.still rfl rfl rfl (Still.lss rfl rfl rfl) ?_
      refine RunL.nil ?_
      refine Ends.then ?_
      refine RunC.cond rfl (fun h40 => ?_) (fun h40 => ?_)
      · have h40 := of_decide_eq_true h40
        obtain ⟨x, hx⟩ := get_of_lt (l := pieceOf d c) (i := k) (by omega)
        have hxN : x < d.cross.length := (mem_piece.1 (List.mem_of_getElem? hx)).1
        refine RunC.skip ?_
        refine Ends.then ?_
        refine RunC.seq ?_
        refine RunC.block ?_
        refine RunC.seq ?_
        refine RunC.region ?_
        refine RunL.still rfl rfl rfl (Still.assign rfl rfl) ?_
        refine RunL.nil ?_
        refine Ends.then ?_
        refine RunC.block ?_
        refine RunC.loop2 (γ := PC × List PC × Nat) (keep := [(1, _), (2, _), (3, _), (4, _), (5, _), (7, _)]) (hkeep := [_, _, _, _, _, _]) (fun (b, az2, v) => v ≤ 2 ∧ BestC d c (2 * k + v) b.2 ∧ b ∈ az2 ∧ (∀ a ∈ az2, RowOk d a) ∧ ∀ a ∈ az, a ∈ az2) (fun (b, az2, v) => 2 - v) (fun (b, az2, v) => [(6, b.1), (8, iv v)]) (fun (b, az2, v) => [HL.rows rowRL az2]) (b, az2, 0) ⟨Nat.zero_le _, hB, hb, haz, hsub⟩ (Fr.Sub.cons rfl (Fr.Sub.cons rfl (Fr.Sub.nil _))) (Fr.Sub.cons rfl (Fr.Sub.cons rfl (Fr.Sub.cons rfl (Fr.Sub.cons rfl (Fr.Sub.cons rfl (Fr.Sub.cons rfl (Fr.Sub.nil _))))))) (HSub.pick 0 rfl (HSub.pick 0 rfl (HSub.pick 0 rfl (HSub.pick 0 rfl (HSub.pick 0 rfl (HSub.pick 0 rfl (HSub.pick 0 rfl (HSub.nil _)))))))) ?_
        rintro ⟨b, az2, v⟩ ⟨hv2, hB, hb, haz, hsub⟩
        have hv2 : v ≤ 2 := hv2
        have hB : BestC d c (2 * k + v) b.2 := hB
        have hb : b ∈ az2 := hb
        refine RunC.seq ?_
        refine RunC.seq ?_
        refine RunC.region ?_
        refine RunL.still rfl rfl rfl (Still.move rfl rfl) ?_
        refine RunL.still rfl rfl rfl (Still.lss rfl rfl rfl) ?_
        refine RunL.nil ?_
        refine Ends.then ?_
        refine RunC.cond rfl (fun h44 => ?_) (fun h44 => ?_)
        · have h44 := of_decide_eq_true h44
          have hdv : (2 * k + v) / 2 = k := by omega
          have hmd : (2 * k + v) % 2 = v := by omega
          have hx2 : (pieceOf d c)[(2 * k + v) / 2]? = some x := by rw [hdv]; exact hx
          obtain ⟨jb, hjb⟩ := List.getElem?_of_mem hb
          have hRb := haz b hb
          refine RunC.skip ?_
          refine Ends.then ?_
          refine RunC.seq ?_
          refine RunC.block ?_
          refine RunC.seq ?_
          refine RunC.draw 8 (.still 0 (.still 1 (.still 2 (.still 3 (.still 4 (.still 5 (.still 6 (.one 7 .done)))))))) (by kernel_rfl) (by kernel_rfl) ?_
          refine RunG.still rfl rfl rfl rfl (Still.loads rfl rfl Tryz.isAgg24 Tryz.sizeOf24 (vs := [_, _]) rfl (fun _ hs => cells_nth (hs.at (i := 6) rfl) ⟨rfl, ⟨rfl, trivial⟩⟩)) ?_
          refine RunG.still rfl rfl rfl rfl (Still.loads rfl rfl Tryz.isAgg24 Tryz.sizeOf24 (vs := [_, _]) rfl (fun _ hs => cells_nth (hs.at (i := 6) rfl) ⟨rfl, ⟨rfl, trivial⟩⟩)) ?_
          refine RunG.still rfl rfl rfl rfl (Still.move rfl rfl) ?_
          refine RunG.still rfl rfl rfl rfl (Still.move rfl rfl) ?_
          refine RunG.still rfl rfl rfl rfl (Still.indexOwn rfl rfl rfl Tryz.underlying36 Tryz.sizeOf3 (fun _ hs => hs.own (i := 3) rfl) (by omega)) ?_
          refine RunG.still rfl rfl rfl rfl (Still.load rfl rfl Tryz.isAgg3 (fun w hs => own_at (hs.own (i := 3) rfl) (ints_get (pc_get hx)))) ?_
          refine RunG.still rfl rfl rfl rfl (Still.move rfl rfl) ?_
          refine RunG.grows rfl rfl rfl rfl (Grows.call (vs := #[_, _, _]) rfl rfl Tryz.call53 (fun w hs => ref_Standard base A cap d x v w (hd.sym hs) hS hxN)) (fun ⟨cv1, av1⟩ _ => ?_)
          refine RunG.done ?_
          show RunL _ _ _ [_, _] _ _
          refine RunL.grows rfl rfl rfl (Grows.call (vs := #[_, _]) rfl rfl Tryz.call52 (fun w hs => ref_NumStd base A cap d cv1 av1 x v w (hd.sym hs) hS hxN (own_shape (hs.own (i := 0) rfl)) (own_all (hs.own (i := 0) rfl)) (own_shape (hs.own (i := 1) rfl)) (own_all (hs.own (i := 1) rfl)))) (fun v55 _ => ?_)
          refine RunL.still rfl rfl rfl (Still.assign rfl rfl) ?_
          refine RunL.nil ?_
          refine Ends.then ?_
          refine RunC.seq ?_
          refine RunC.know (fun _ hs => own_open (hs.own (i := 0) rfl) (codeOf_pos hS hxN v)) (fun hop => ?_)
          obtain ⟨ng, nc, hnw, _⟩ := hop
          refine RunC.region ?_
          refine RunL.still rfl rfl rfl (Still.move rfl rfl) ?_
          refine RunL.still rfl rfl rfl (Still.move rfl rfl) ?_
          refine RunL.grows rfl rfl rfl (Grows.call (vs := #[_, _]) rfl rfl Tryz.call54 (fun w hs => ref_Less v55 b.1 (codeOf d x v) b.2 w (own_shape (hs.own (i := 0) rfl)) (own_shape (rows_get (hs.at (i := 3) rfl) hjb)) (own_all (hs.own (i := 0) rfl)) (own_all (rows_get (hs.at (i := 3) rfl) hjb)) (by have := codeOf_le hS hxN v; omega) (by have := hRb.len hS; omega))) (fun _ _ => ?_)
          refine RunL.conv (fun _ hs => Sym.rows_push (mk := rowRL) (a := (v55, codeOf d x v)) (hs.sub (HSub.pick 0 rfl (HSub.pick 2 rfl (HSub.pick 0 rfl (HSub.pick 0 rfl (HSub.pick 0 rfl (HSub.pick 0 rfl (HSub.pick 0 rfl (HSub.pick 0 rfl (HSub.pick 0 rfl (HSub.pick 0 rfl (HSub.nil _))))))))))))) ?_
          refine RunL.nil ?_
          refine Ends.then ?_
          refine RunC.cond rfl (fun h58 => ?_) (fun h58 => ?_)
          · skip
            refine RunC.region ?_
            refine RunL.still rfl rfl rfl (Still.move rfl rfl) ?_
            refine RunL.still rfl rfl rfl (Still.assign rfl rfl) ?_
            refine RunL.nil ?_
            refine Ends.block ?_
            refine Ends.then ?_
            refine RunC.region ?_
            refine RunL.still rfl rfl rfl (Still.move rfl rfl) ?_
            refine RunL.still rfl rfl rfl (Still.add rfl rfl rfl (fits64 (by omega) (by omega))) ?_
            refine RunL.still rfl rfl rfl (Still.assign rfl rfl) ?_
            refine RunL.nil ?_
            refine Ends.again ((v55, codeOf d x v), az2 ++ [(v55, codeOf d x v)], v + 1) ?_ ?_ (Fr.Sub.app ?_ ?_) ?_
            · exact ⟨by show v + 1 ≤ 2; omega, by have h := hB.take hx2 (by rw [hmd]; exact ltB_iff.1 h58); rwa [hmd] at h, List.mem_append.2 (.inr (List.mem_singleton.2 rfl)), (fun a h => (List.mem_append.1 h).elim (haz a) (fun e => by rw [List.mem_singleton.1 e]; exact ⟨⟨ng, nc, hnw⟩, ⟨x, v, hxN, rfl⟩⟩)), fun a h => List.mem_append.2 (.inl (hsub a h))⟩
            · show 2 - (v + 1) < 2 - v; omega
            · exact Fr.Sub.cons rfl (Fr.Sub.cons rfl (Fr.Sub.nil _))
            · exact Fr.Sub.cons rfl (Fr.Sub.cons rfl (Fr.Sub.cons rfl (Fr.Sub.cons rfl (Fr.Sub.cons rfl (Fr.Sub.cons rfl (Fr.Sub.nil _))))))
            · exact HSub.pick 0 rfl (HSub.pick 2 rfl (HSub.pick 2 rfl (HSub.pick 2 rfl (HSub.pick 2 rfl (HSub.pick 2 rfl (HSub.pick 2 rfl (HSub.nil _)))))))
          · skip
            refine RunC.skip ?_
            refine Ends.block ?_
            refine Ends.then ?_
            refine RunC.region ?_
            refine RunL.still rfl rfl rfl (Still.move rfl rfl) ?_
            refine RunL.still rfl rfl rfl (Still.add rfl rfl rfl (fits64 (by omega) (by omega))) ?_
            refine RunL.still rfl rfl rfl (Still.assign rfl rfl) ?_
            refine RunL.nil ?_
            refine Ends.again (b, az2 ++ [(v55, codeOf d x v)], v + 1) ?_ ?_ (Fr.Sub.app ?_ ?_) ?_
            · exact ⟨by show v + 1 ≤ 2; omega, hB.keep hx2 (by rw [hmd]; exact ltB_not.1 h58), List.mem_append.2 (.inl hb), (fun a h => (List.mem_append.1 h).elim (haz a) (fun e => by rw [List.mem_singleton.1 e]; exact ⟨⟨ng, nc, hnw⟩, ⟨x, v, hxN, rfl⟩⟩)), fun a h => List.mem_append.2 (.inl (hsub a h))⟩
            · show 2 - (v + 1) < 2 - v; omega
            · exact Fr.Sub.cons rfl (Fr.Sub.cons rfl (Fr.Sub.nil _))
            · exact Fr.Sub.cons rfl (Fr.Sub.cons rfl (Fr.Sub.cons rfl (Fr.Sub.cons rfl (Fr.Sub.cons rfl (Fr.Sub.cons rfl (Fr.Sub.nil _))))))
            · exact HSub.pick 0 rfl (HSub.pick 2 rfl (HSub.pick 2 rfl (HSub.pick 2 rfl (HSub.pick 2 rfl (HSub.pick 2 rfl (HSub.pick 2 rfl (HSub.nil _)))))))
        · have h44 := of_decide_eq_false h44
          obtain rfl : v = 2 := by omega
          refine RunC.exit ?_
          refine Ends.then_exit ?_
          refine Ends.then_exit ?_
          refine Ends.block_exit ?_
          refine Ends.block ?_
          refine Ends.then ?_
          refine RunC.region ?_
          refine RunL.still rfl rfl rfl (Still.move rfl rfl) ?_
          refine RunL.still rfl rfl rfl (Still.add rfl rfl rfl (fits64 (by omega) (by omega))) ?_
          refine RunL.still rfl rfl rfl (Still.assign rfl rfl) ?_
          refine RunL.nil ?_
          refine Ends.again (b, az2, k + 1) ?_ ?_ (Fr.Sub.app ?_ ?_) ?_
          · exact ⟨by show k + 1 ≤ _; omega, hB, hb, haz, hsub⟩
          · show _ - (k + 1) < _ - k; omega
          · exact Fr.Sub.cons rfl (Fr.Sub.cons rfl (Fr.Sub.nil _))
          · exact Fr.Sub.cons rfl (Fr.Sub.cons rfl (Fr.Sub.cons rfl (Fr.Sub.cons rfl (Fr.Sub.cons rfl (Fr.Sub.nil _)))))
          · exact HSub.pick 0 rfl (HSub.pick 0 rfl (HSub.pick 0 rfl (HSub.pick 0 rfl (HSub.pick 0 rfl (HSub.pick 0 rfl (HSub.pick 0 rfl (HSub.nil _)))))))
      · have h40 := of_decide_eq_false h40
        obtain rfl : k = (pieceOf d c).length := by omega
        have hmin := hB.done hS hcN
        obtain ⟨bv, bm⟩ := b
        obtain ⟨bg, bc, hbv⟩ := (haz _ hb).sl
        simp only at hbv
        subst hbv
        refine RunC.exit ?_
        refine Ends.then_exit ?_
        refine Ends.then_exit ?_
        refine Ends.block_exit ?_
        refine Ends.then ?_
        refine RunC.seq ?_
        refine RunC.region ?_
        refine RunL.still rfl rfl rfl (Still.move rfl rfl) ?_
        refine RunL.still rfl rfl rfl (Still.move rfl rfl) ?_
        refine RunL.grows rfl rfl rfl (Grows.slice1 rfl rfl Tryz.underlying92 Tryz.sizeOf22 rfl Tryz.zeroValue22 (by decide)) (fun b62 _ => ?_)
        refine RunL.does rfl rfl rfl (Does.appendTo (n' := (ps.length + 1)) (xs' := ((ps ++ [(Value.slice (some ⟨bg, 0, none⟩) bm.length bc, bm)]).map Prod.fst)) (news := [_]) rfl rfl rfl rfl (i := 5) rfl Tryz.underlying92 (by kernel_rfl : (_ : Option _) = some (some (.slice none 0 0), 1, 24)) rfl rfl (fun _ hs => cells_nth (hs.at (i := 0) rfl) ⟨rfl, trivial⟩) rfl rfl (by omega) (by omega) (rfl) ((by simp))) (fun v63 hv63 => ?_)
        refine RunL.still rfl rfl rfl (Still.assign rfl rfl) ?_
        refine RunL.nil ?_
        refine Ends.then ?_
        refine RunC.seq ?_
        refine RunC.region ?_
        refine RunL.still rfl rfl rfl (Still.move rfl rfl) ?_
        refine RunL.still rfl rfl rfl (Still.lenOwn rfl rfl Tryz.underlying92 (fun _ hs => hs.own (i := 5) rfl)) ?_
        refine RunL.still rfl rfl rfl (Still.sub rfl rfl rfl (fits64 (by omega) (by omega))) ?_
        refine RunL.again (t := 66) (u := iv (ps.length : Int)) rfl (congrArg iv (by omega)) ?_
        refine RunL.still rfl rfl rfl (Still.assign rfl rfl) ?_
        refine RunL.nil ?_
        refine Ends.then ?_
        refine RunC.block ?_
        refine RunC.loop2 (γ := List PC × Nat) (keep := [(1, _), (2, _), (3, _), (4, _)]) (hkeep := [_, _, _, _, _, _, _]) (fun (qs, i) => i ≤ ps.length ∧ qs.Perm (ps ++ [(Value.slice (some ⟨bg, 0, none⟩) bm.length bc, bm)]) ∧ InsAt (qs.map Prod.snd) i) (fun (qs, i) => i) (fun (qs, i) => [(10, iv i)]) (fun (qs, i) => [HL.own 22 1 v63 (ps.length + 1) (qs.map Prod.fst)]) (ps ++ [(Value.slice (some ⟨bg, 0, none⟩) bm.length bc, bm)], ps.length) ⟨Nat.le_refl _, List.Perm.refl _, InsAt.startP hI.ord⟩ (Fr.Sub.cons rfl (Fr.Sub.nil _)) (Fr.Sub.cons rfl (Fr.Sub.cons rfl (Fr.Sub.cons rfl (Fr.Sub.cons rfl (Fr.Sub.nil _))))) (HSub.pick 5 rfl (HSub.pick 0 rfl (HSub.pick 0 rfl (HSub.pick 0 rfl (HSub.pick 0 rfl (HSub.pick 0 rfl (HSub.pick 0 rfl (HSub.pick 0 rfl (HSub.nil _))))))))) ?_
        rintro ⟨qs, i⟩ ⟨hil, hpm, hIn⟩
        have hil : i ≤ ps.length := hil
        have hpm : qs.Perm (ps ++ [(Value.slice (some ⟨bg, 0, none⟩) bm.length bc, bm)]) := hpm
        have hIn : InsAt (qs.map Prod.snd) i := hIn
        have hql : qs.length = ps.length + 1 := by rw [hpm.length_eq, List.length_append, List.length_singleton]
        refine RunC.seq ?_
        refine RunC.seq ?_
        refine RunC.region ?_
        refine RunL.still rfl rfl rfl (Still.move rfl rfl) ?_
        refine RunL.still rfl rfl rfl (Still.gtr rfl rfl rfl) ?_
        refine RunL.nil ?_
        refine Ends.then ?_
        refine RunC.cond rfl (fun h68 => ?_) (fun h68 => ?_)
        · have h68 := of_decide_eq_true h68
          obtain ⟨i1, rfl⟩ : ∃ i1, i = i1 + 1 := ⟨i - 1, by omega⟩
          obtain ⟨p, hp⟩ := get_of_lt (l := qs) (i := i1) (by omega)
          obtain ⟨q, hq⟩ := get_of_lt (l := qs) (i := i1 + 1) (by omega)
          have hqz : ∀ a ∈ qs, a ∈ az2 := fun a ha => (List.mem_append.1 (hpm.mem_iff.1 ha)).elim (fun k => hsub a (hI.mem a k)) (fun k => by rw [List.mem_singleton.1 k]; exact hb)
          have hpz := hqz p (List.mem_of_getElem? hp)
          have hqz1 := hqz q (List.mem_of_getElem? hq)
          obtain ⟨jp, hjp⟩ := List.getElem?_of_mem hpz
          obtain ⟨jq, hjq⟩ := List.getElem?_of_mem hqz1
          have hRp := haz p hpz
          have hRq := haz q hqz1
          refine RunC.skip ?_
          refine Ends.then ?_
          refine RunC.seq ?_
          refine RunC.block ?_
          refine RunC.seq ?_
          refine RunC.draw 9 (.still 0 (.still 1 (.still 2 (.still 3 (.still 4 (.still 5 (.still 6 (.still 7 (.still 8 .done))))))))) (by kernel_rfl) (by kernel_rfl) ?_
          refine RunG.still rfl rfl rfl rfl (Still.move rfl rfl) ?_
          refine RunG.still rfl rfl rfl rfl (Still.move rfl rfl) ?_
          refine RunG.still rfl rfl rfl rfl (Still.indexOwn rfl rfl rfl Tryz.underlying92 Tryz.sizeOf22 (fun _ hs => hs.own (i := 0) rfl) (by omega)) ?_
          refine RunG.still rfl rfl rfl rfl (Still.load rfl rfl Tryz.isAgg22 (fun w hs => own_at (hs.own (i := 0) rfl) ((fst_get hq)))) ?_
          refine RunG.still rfl rfl rfl rfl (Still.move rfl rfl) ?_
          refine RunG.still rfl rfl rfl rfl (Still.move rfl rfl) ?_
          refine RunG.still rfl rfl rfl rfl (Still.sub rfl rfl rfl (fits64 (by omega) (by omega))) ?_
          refine RunG.still rfl rfl rfl rfl (Still.indexOwnI (m := i1) rfl rfl rfl Tryz.underlying92 Tryz.sizeOf22 (fun _ hs => hs.own (i := 0) rfl) (by omega) (by omega)) ?_
          refine RunG.still rfl rfl rfl rfl (Still.load rfl rfl Tryz.isAgg22 (fun w hs => own_at (hs.own (i := 0) rfl) ((fst_get hp)))) ?_
          refine RunG.done ?_
          show RunL _ _ _ [_] _ _
          refine RunL.grows rfl rfl rfl (Grows.call (vs := #[_, _]) rfl rfl Tryz.call54 (fun w hs => ref_Less q.1 p.1 q.2 p.2 w (own_shape (rows_get (hs.at (i := 2) rfl) hjq)) (own_shape (rows_get (hs.at (i := 2) rfl) hjp)) (own_all (rows_get (hs.at (i := 2) rfl) hjq)) (own_all (rows_get (hs.at (i := 2) rfl) hjp)) (by have := hRq.len hS; omega) (by have := hRp.len hS; omega))) (fun _ _ => ?_)
          refine RunL.nil ?_
          refine Ends.then ?_
          refine RunC.cond rfl (fun h80 => ?_) (fun h80 => ?_)
          · skip
            refine RunC.seq ?_
            refine RunC.region ?_
            refine RunL.still rfl rfl rfl (Still.move rfl rfl) ?_
            refine RunL.still rfl rfl rfl (Still.move rfl rfl) ?_
            refine RunL.still rfl rfl rfl (Still.indexOwn rfl rfl rfl Tryz.underlying92 Tryz.sizeOf22 (fun _ hs => hs.own (i := 0) rfl) (by omega)) ?_
            refine RunL.still rfl rfl rfl (Still.load rfl rfl Tryz.isAgg22 (fun w hs => own_at (hs.own (i := 0) rfl) ((fst_get hq)))) ?_
            refine RunL.still rfl rfl rfl (Still.assign rfl rfl) ?_
            refine RunL.nil ?_
            refine Ends.then ?_
            refine RunC.seq ?_
            refine RunC.region ?_
            refine RunL.still rfl rfl rfl (Still.move rfl rfl) ?_
            refine RunL.still rfl rfl rfl (Still.move rfl rfl) ?_
            refine RunL.still rfl rfl rfl (Still.move rfl rfl) ?_
            refine RunL.still rfl rfl rfl (Still.move rfl rfl) ?_
            refine RunL.still rfl rfl rfl (Still.sub rfl rfl rfl (fits64 (by omega) (by omega))) ?_
            refine RunL.still rfl rfl rfl (Still.indexOwnI (m := i1) rfl rfl rfl Tryz.underlying92 Tryz.sizeOf22 (fun _ hs => hs.own (i := 0) rfl) (by omega) (by omega)) ?_
            refine RunL.still rfl rfl rfl (Still.load rfl rfl Tryz.isAgg22 (fun w hs => own_at (hs.own (i := 0) rfl) ((fst_get hp)))) ?_
            refine RunL.still rfl rfl rfl (Still.indexOwn rfl rfl rfl Tryz.underlying92 Tryz.sizeOf22 (fun _ hs => hs.own (i := 0) rfl) (by omega)) ?_
            refine RunL.does0 rfl rfl (Does.storeOwn1 (xs' := ((qs.set (i1 + 1) p).map Prod.fst)) rfl rfl rfl rfl (i := 0) rfl Tryz.sizeOf22 hRp.one (by rw [List.length_map]; omega) ((by simp [List.map_set]))) (fun _ _ => ?_)
            refine RunL.nil ?_
            refine Ends.then ?_
            refine RunC.region ?_
            refine RunL.still rfl rfl rfl (Still.move rfl rfl) ?_
            refine RunL.still rfl rfl rfl (Still.move rfl rfl) ?_
            refine RunL.still rfl rfl rfl (Still.sub rfl rfl rfl (fits64 (by omega) (by omega))) ?_
            refine RunL.still rfl rfl rfl (Still.move rfl rfl) ?_
            refine RunL.still rfl rfl rfl (Still.indexOwnI (m := i1) rfl rfl rfl Tryz.underlying92 Tryz.sizeOf22 (fun _ hs => hs.own (i := 0) rfl) (by omega) (by omega)) ?_
            refine RunL.does0 rfl rfl (Does.storeOwn1 (xs' := (((qs.set (i1 + 1) p).set i1 q).map Prod.fst)) rfl rfl rfl rfl (i := 0) rfl Tryz.sizeOf22 hRq.one (by rw [List.length_map, List.length_set]; omega) ((by simp [List.map_set]))) (fun _ _ => ?_)
            refine RunL.nil ?_
            refine Ends.block ?_
            refine Ends.then ?_
            refine RunC.region ?_
            refine RunL.still rfl rfl rfl (Still.move rfl rfl) ?_
            refine RunL.still rfl rfl rfl (Still.sub rfl rfl rfl (fits64 (by omega) (by omega))) ?_
            refine RunL.again (t := 70) (u := iv (i1 : Int)) rfl (congrArg iv (by omega)) ?_
            refine RunL.still rfl rfl rfl (Still.assign rfl rfl) ?_
            refine RunL.nil ?_
            refine Ends.again ((qs.set (i1 + 1) p).set i1 q, i1) ?_ ?_ (Fr.Sub.app ?_ ?_) ?_
            · exact ⟨by show i1 ≤ _; omega, (swap_perm hp hq).trans hpm, hIn.swapP hp hq (ltB_iff.1 h80)⟩
            · show i1 < i1 + 1; omega
            · exact Fr.Sub.cons rfl (Fr.Sub.nil _)
            · exact Fr.Sub.cons rfl (Fr.Sub.cons rfl (Fr.Sub.cons rfl (Fr.Sub.cons rfl (Fr.Sub.nil _))))
            · exact HSub.pick 0 rfl (HSub.pick 0 rfl (HSub.pick 0 rfl (HSub.pick 0 rfl (HSub.pick 0 rfl (HSub.pick 0 rfl (HSub.pick 0 rfl (HSub.pick 0 rfl (HSub.nil _))))))))
          · skip
            refine RunC.skip ?_
            refine Ends.block ?_
            refine Ends.then ?_
            refine RunC.region ?_
            refine RunL.still rfl rfl rfl (Still.move rfl rfl) ?_
            refine RunL.still rfl rfl rfl (Still.sub rfl rfl rfl (fits64 (by omega) (by omega))) ?_
            refine RunL.again (t := 70) (u := iv (i1 : Int)) rfl (congrArg iv (by omega)) ?_
            refine RunL.still rfl rfl rfl (Still.assign rfl rfl) ?_
            refine RunL.nil ?_
            refine Ends.again (qs, i1) ?_ ?_ (Fr.Sub.app ?_ ?_) ?_
            · exact ⟨by show i1 ≤ _; omega, hpm, hIn.stayP hp hq (ltB_not.1 h80)⟩
            · show i1 < i1 + 1; omega
            · exact Fr.Sub.cons rfl (Fr.Sub.nil _)
            · exact Fr.Sub.cons rfl (Fr.Sub.cons rfl (Fr.Sub.cons rfl (Fr.Sub.cons rfl (Fr.Sub.nil _))))
            · exact HSub.pick 0 rfl (HSub.pick 0 rfl (HSub.pick 0 rfl (HSub.pick 0 rfl (HSub.pick 0 rfl (HSub.pick 0 rfl (HSub.pick 0 rfl (HSub.pick 0 rfl (HSub.nil _))))))))
        · have h68 := of_decide_eq_false h68
          obtain rfl : i = 0 := by omega
          refine RunC.exit ?_
          refine Ends.then_exit ?_
          refine Ends.then_exit ?_
          refine Ends.block_exit ?_
          refine Ends.block ?_
          refine Ends.then ?_
          refine RunC.region ?_
          refine RunL.still rfl rfl rfl (Still.move rfl rfl) ?_
          refine RunL.still rfl rfl rfl (Still.add rfl rfl rfl (fits64 (by omega) (by omega))) ?_
          refine RunL.still rfl rfl rfl (Still.assign rfl rfl) ?_
          refine RunL.nil ?_
          refine Ends.again (v63, qs, az2, c + 1) ?_ ?_ (Fr.Sub.app ?_ ?_) ?_
          · exact ⟨by show c + 1 ≤ _; omega, hI.add hS hcN hh hmin hpm hIn hsub hb, haz, by show qs.length ≤ c + 1; omega⟩
          · show _ - (c + 1) < _ - c; omega
          · exact Fr.Sub.cons rfl (Fr.Sub.cons rfl (Fr.Sub.nil _))
          · exact Fr.Sub.cons rfl (Fr.Sub.cons rfl (Fr.Sub.nil _))
          · exact HSub.pick 0 (by show _ = some (HL.own 22 1 v63 qs.length _); rw [hql]; rfl) (HSub.pick 1 rfl (HSub.pick 4 rfl (HSub.pick 4 rfl (HSub.nil _))))
  · have h21 := of_decide_eq_false h21
    obtain rfl : c = d.cross.length := by omega
    have hcan := hI.done
    have htot := can_len hS hcan
    have hFl : ∀ i, (flatTo ps i).length ≤ 200 := fun i => by have := flatTo_le ps i; omega
    refine RunC.exit ?_
    refine Ends.then_exit ?_
    refine Ends.then_exit ?_
    refine Ends.block_exit ?_
    refine Ends.then ?_
    refine RunC.seq ?_
    refine RunC.region ?_
    refine RunL.still rfl rfl rfl (Still.fieldAddrL (off := 0) (off' := 1) rfl rfl Tryz.underlying24 rfl Tryz.sizeOf3 rfl) ?_
    refine RunL.still rfl rfl rfl (Still.load rfl rfl Tryz.isAgg3 (fun _ hs => cell_nth (hs.at (i := 3) rfl) rfl)) ?_
    refine RunL.still rfl rfl rfl (Still.build_1 (fun x0_0 => .agg #[.slice none 0 0, x0_0]) rfl rfl (fun _ => by kernel_rfl)) ?_
    refine RunL.grows rfl rfl rfl (Grows.alloc rfl Tryz.zeroValue24) (fun b12 _ => ?_)
    refine RunL.does0 rfl rfl (Does.store rfl rfl rfl (i := 0) rfl Tryz.sizeOf24 rfl (rfl) rfl) (fun _ _ => ?_)
    refine RunL.conv (fun _ hs => hs.re 0 rfl (show _ = HL.obj b12 (.cells #[.slice none 0 0, iv d.loops] 24 (0, 0)) from rfl)) ?_
    refine RunL.nil ?_
    refine Ends.then ?_
    refine RunC.seq ?_
    refine RunC.seq ?_
    refine RunC.own_nil 62 5 ?_
    refine RunC.region ?_
    refine RunL.still rfl rfl rfl (Still.assign rfl rfl) ?_
    refine RunL.nil ?_
    refine Ends.then ?_
    refine RunC.block ?_
    refine RunC.loop2 (γ := Value × Nat) (keep := [(2, _), (3, _), (12, _)]) (hkeep := [_, _, _, _]) (fun (xx, i) => i ≤ ps.length) (fun (xx, i) => ps.length - i) (fun (xx, i) => [(13, iv i)]) (fun (xx, i) => [HL.obj b12 (.cells #[xx, iv d.loops] 24 (0, 0)), HL.own 62 5 xx (flatTo ps i).length ((flatTo ps i).flatMap encCr)]) (.slice none 0 0, 0) (Nat.zero_le _) (Fr.Sub.cons rfl (Fr.Sub.nil _)) (Fr.Sub.cons rfl (Fr.Sub.cons rfl (Fr.Sub.cons rfl (Fr.Sub.nil _)))) (HSub.pick 1 rfl (HSub.pick 0 (by rw [flatTo_zero]; rfl) (HSub.pick 0 rfl (HSub.pick 0 rfl (HSub.pick 0 rfl (HSub.pick 0 rfl (HSub.nil _))))))) ?_
    rintro ⟨xx, i⟩ hi
    have hi : i ≤ ps.length := hi
    refine RunC.seq ?_
    refine RunC.seq ?_
    refine RunC.region ?_
    refine RunL.still rfl rfl rfl (Still.move rfl rfl) ?_
    refine RunL.still rfl rfl rfl (Still.move rfl rfl) ?_
    refine RunL.still rfl rfl rfl (Still.lenOwn rfl rfl Tryz.underlying92 (fun _ hs => hs.own (i := 2) rfl)) ?_
    refine RunL.still rfl rfl rfl (Still.lss rfl rfl rfl) ?_
    refine RunL.nil ?_
    refine Ends.then ?_
    refine RunC.cond rfl (fun h104 => ?_) (fun h104 => ?_)
    · have h104 := of_decide_eq_true h104
      obtain ⟨⟨av, am⟩, ha⟩ := get_of_lt (l := ps) (i := i) (by omega)
      have haA := hI.mem _ (List.mem_of_getElem? ha)
      obtain ⟨ja, hja⟩ := List.getElem?_of_mem haA
      have hRa := haz _ haA
      obtain ⟨ag, ac, hav⟩ := hRa.sl
      simp only at hav
      subst hav
      refine RunC.skip ?_
      refine Ends.then ?_
      refine RunC.seq ?_
      refine RunC.block ?_
      refine RunC.seq ?_
      refine RunC.know (fun _ hs => own_shape (hs.own (i := 1) rfl)) (fun hsh => ?_)
      obtain ⟨xb, xc, hxv, hxb⟩ := hsh
      change xx = _ at hxv
      subst hxv
      refine RunC.drawM 12 (by kernel_rfl) (by kernel_rfl) ?_
      refine RunM0.still (i := 0) rfl rfl rfl rfl (Still.loads rfl rfl Tryz.isAgg24 Tryz.sizeOf24 (vs := [_, _]) rfl (fun _ hs => cells_nth (hs.at (i := 0) rfl) ⟨rfl, ⟨rfl, trivial⟩⟩)) (by kernel_rfl) (by kernel_rfl) rfl ?_
      refine RunM0.still (i := 1) rfl rfl rfl rfl (Still.move rfl rfl) (by kernel_rfl) (by kernel_rfl) rfl ?_
      refine RunM0.still (i := 2) rfl rfl rfl rfl (Still.move rfl rfl) (by kernel_rfl) (by kernel_rfl) rfl ?_
      refine RunM0.still (i := 3) rfl rfl rfl rfl (Still.indexOwn rfl rfl rfl Tryz.underlying92 Tryz.sizeOf22 (fun _ hs => hs.own (i := 2) rfl) (by omega)) (by kernel_rfl) (by kernel_rfl) rfl ?_
      refine RunM0.still (i := 4) rfl rfl rfl rfl (Still.load rfl rfl Tryz.isAgg22 (fun w hs => own_at (hs.own (i := 2) rfl) ((fst_get ha)))) (by kernel_rfl) (by kernel_rfl) rfl ?_
      refine RunM0.still (i := 5) rfl rfl rfl rfl (Still.build_1 (fun x0_0 => .agg #[x0_0, .int .i64 0]) rfl rfl (fun _ => by kernel_rfl)) (by kernel_rfl) (by kernel_rfl) rfl ?_
      refine RunM0.news ?_
      refine RunM.pick [6, 10] (by kernel_rfl) rfl rfl (fun i hi => ?_)
      simp only [List.mem_cons, List.not_mem_nil, or_false] at hi
      rcases hi with rfl | rfl
      ·
        refine StepM.grows rfl rfl rfl rfl (Grows.call (vs := #[_, _]) rfl rfl Tryz.call55 (fun w hs => ref_UniStep xb xc d hS ps i ag am ac w ha hRa hcan hxb (own_all (hs.own (i := 1) rfl)) (own_all (rows_get (hs.at (i := 3) rfl) hja)))) (fun ⟨ub, uc⟩ _ => ?_)
        refine RunM.pure (i := 7) rfl rfl rfl rfl (fun _ => Still.move rfl rfl) (by kernel_rfl) (by kernel_rfl) rfl ?_
        refine RunM.pure (i := 8) rfl rfl rfl rfl (fun _ => Still.extractN rfl rfl rfl) (by kernel_rfl) (by kernel_rfl) rfl ?_
        refine RunM.pure (i := 9) rfl rfl rfl rfl (fun _ => Still.extractN rfl rfl rfl) (by kernel_rfl) (by kernel_rfl) rfl ?_
        refine RunM.pick [10] (by kernel_rfl) rfl rfl (fun i hi => ?_)
        obtain rfl : i = 10 := by simpa using hi
        refine StepM.alloc rfl rfl rfl rfl rfl Tryz.zeroValue24 (fun b14 => ?_)
        refine RunM.pick [11] (by kernel_rfl) rfl rfl (fun i hi => ?_)
        obtain rfl : i = 11 := by simpa using hi
        refine StepM.store rfl rfl rfl rfl rfl rfl (m := 0) rfl Tryz.sizeOf24 rfl rfl rfl (by simp) ?_
        refine RunM.done (by kernel_rfl) ?_
        show RunL _ _ _ [_] _ _
        refine RunL.still rfl rfl rfl (Still.assign rfl rfl) ?_
        refine RunL.nil ?_
        refine Ends.then ?_
        refine RunC.region ?_
        refine RunL.still rfl rfl rfl (Still.loads rfl rfl Tryz.isAgg24 Tryz.sizeOf24 (vs := [_, _]) rfl (fun _ hs => cells_nth (hs.at (i := 0) rfl) ⟨rfl, ⟨rfl, trivial⟩⟩)) ?_
        refine RunL.does0 rfl rfl (Does.store rfl rfl rfl (i := 2) rfl Tryz.sizeOf24 rfl (rfl) rfl) (fun _ _ => ?_)
        refine RunL.conv (fun _ hs => hs.re 2 rfl (show _ = HL.obj b12 (.cells #[.slice ub (flatTo ps (i + 1)).length uc, iv d.loops] 24 (0, 0)) from rfl)) ?_
        refine RunL.nil ?_
        refine Ends.block ?_
        refine Ends.then ?_
        refine RunC.region ?_
        refine RunL.still rfl rfl rfl (Still.move rfl rfl) ?_
        refine RunL.still rfl rfl rfl (Still.add rfl rfl rfl (fits64 (by omega) (by omega))) ?_
        refine RunL.still rfl rfl rfl (Still.assign rfl rfl) ?_
        refine RunL.nil ?_
        refine Ends.again (.slice ub (flatTo ps (i + 1)).length uc, i + 1) ?_ ?_ (Fr.Sub.app ?_ ?_) ?_
        · show i + 1 ≤ _; omega
        · show _ - (i + 1) < _ - i; omega
        · exact Fr.Sub.cons rfl (Fr.Sub.nil _)
        · exact Fr.Sub.cons rfl (Fr.Sub.cons rfl (Fr.Sub.cons rfl (Fr.Sub.nil _)))
        · exact HSub.pick 2 rfl (HSub.pick 1 rfl (HSub.pick 2 rfl (HSub.pick 2 rfl (HSub.pick 2 rfl (HSub.pick 2 rfl (HSub.nil _))))))
      ·
        refine StepM.alloc rfl rfl rfl rfl rfl Tryz.zeroValue24 (fun b14 => ?_)
        refine RunM.pick [6] (by kernel_rfl) rfl rfl (fun i hi => ?_)
        obtain rfl : i = 6 := by simpa using hi
        refine StepM.grows rfl rfl rfl rfl (Grows.call (vs := #[_, _]) rfl rfl Tryz.call55 (fun w hs => ref_UniStep xb xc d hS ps i ag am ac w ha hRa hcan hxb (own_all (hs.own (i := 2) rfl)) (own_all (rows_get (hs.at (i := 4) rfl) hja)))) (fun ⟨ub, uc⟩ _ => ?_)
        refine RunM.pure (i := 7) rfl rfl rfl rfl (fun _ => Still.move rfl rfl) (by kernel_rfl) (by kernel_rfl) rfl ?_
        refine RunM.pure (i := 8) rfl rfl rfl rfl (fun _ => Still.extractN rfl rfl rfl) (by kernel_rfl) (by kernel_rfl) rfl ?_
        refine RunM.pure (i := 9) rfl rfl rfl rfl (fun _ => Still.extractN rfl rfl rfl) (by kernel_rfl) (by kernel_rfl) rfl ?_
        refine RunM.pick [11] (by kernel_rfl) rfl rfl (fun i hi => ?_)
        obtain rfl : i = 11 := by simpa using hi
        refine StepM.store rfl rfl rfl rfl rfl rfl (m := 1) rfl Tryz.sizeOf24 rfl rfl rfl (by simp) ?_
        refine RunM.done (by kernel_rfl) ?_
        show RunL _ _ _ [_] _ _
        refine RunL.still rfl rfl rfl (Still.assign rfl rfl) ?_
        refine RunL.nil ?_
        refine Ends.then ?_
        refine RunC.region ?_
        refine RunL.still rfl rfl rfl (Still.loads rfl rfl Tryz.isAgg24 Tryz.sizeOf24 (vs := [_, _]) rfl (fun _ hs => cells_nth (hs.at (i := 1) rfl) ⟨rfl, ⟨rfl, trivial⟩⟩)) ?_
        refine RunL.does0 rfl rfl (Does.store rfl rfl rfl (i := 2) rfl Tryz.sizeOf24 rfl (rfl) rfl) (fun _ _ => ?_)
        refine RunL.conv (fun _ hs => hs.re 2 rfl (show _ = HL.obj b12 (.cells #[.slice ub (flatTo ps (i + 1)).length uc, iv d.loops] 24 (0, 0)) from rfl)) ?_
        refine RunL.nil ?_
        refine Ends.block ?_
        refine Ends.then ?_
        refine RunC.region ?_
        refine RunL.still rfl rfl rfl (Still.move rfl rfl) ?_
        refine RunL.still rfl rfl rfl (Still.add rfl rfl rfl (fits64 (by omega) (by omega))) ?_
        refine RunL.still rfl rfl rfl (Still.assign rfl rfl) ?_
        refine RunL.nil ?_
        refine Ends.again (.slice ub (flatTo ps (i + 1)).length uc, i + 1) ?_ ?_ (Fr.Sub.app ?_ ?_) ?_
        · show i + 1 ≤ _; omega
        · show _ - (i + 1) < _ - i; omega
        · exact Fr.Sub.cons rfl (Fr.Sub.nil _)
        · exact Fr.Sub.cons rfl (Fr.Sub.cons rfl (Fr.Sub.cons rfl (Fr.Sub.nil _)))
        · exact HSub.pick 2 rfl (HSub.pick 0 rfl (HSub.pick 2 rfl (HSub.pick 2 rfl (HSub.pick 2 rfl (HSub.pick 2 rfl (HSub.nil _))))))
    · have h104 := of_decide_eq_false h104
      obtain rfl : i = ps.length := by omega
      refine RunC.exit ?_
      refine Ends.then_exit ?_
      refine Ends.then_exit ?_
      refine Ends.block_exit ?_
      refine Ends.then ?_
      refine RunC.seq ?_
      refine RunC.know (fun _ hs => own_shape (hs.own (i := 1) rfl)) (fun hsh => ?_)
      obtain ⟨xb, xc, hxv, hxb⟩ := hsh
      change xx = _ at hxv
      subst hxv
      refine RunC.region ?_
      refine RunL.still rfl rfl rfl (Still.loads rfl rfl Tryz.isAgg24 Tryz.sizeOf24 (vs := [_, _]) rfl (fun _ hs => cells_nth (hs.at (i := 0) rfl) ⟨rfl, ⟨rfl, trivial⟩⟩)) ?_
      refine RunL.does0 rfl rfl (Does.store rfl rfl rfl (i := 4) rfl Tryz.sizeOf24 rfl (rfl) rfl) (fun _ _ => ?_)
      refine RunL.conv (fun _ hs => hs.re 4 rfl (show _ = HL.obj b2 (.cells #[.slice xb (flatTo ps ps.length).length xc, iv d.loops] 24 (0, 0)) from rfl)) ?_
      refine RunL.nil ?_
      refine Ends.then ?_
      refine RunC.ret ?_
      have hall : canF d (ps.map Prod.snd) = ⟨flatTo ps ps.length, d.loops⟩ := by rw [flatTo_all]; rfl
      refine Ends.leave (.inl rfl) (fun _ _ ok => results1 Tryz.results17 (Holds.cell rfl (fun _ hs => load_cells (vs := [_, _]) Tryz.isAgg24 Tryz.sizeOf24 rfl (cells_nth (hs.at (i := 4) rfl) ⟨rfl, ⟨rfl, trivial⟩⟩))) ok) (fun w1 hs => ?_)
      refine Ret.intro ((xb, xc), ps.map Prod.snd) ⟨by show OKB (xb, xc) (canF d _).cross.length; rw [hall]; exact hxb, hcan⟩ (by show _ = diaV xb xc (canF d (ps.map Prod.snd)); rw [hall]) ?_ hs
      show HSub [ownD (xb, xc) (canF d (ps.map Prod.snd))] _
      rw [hall]
      exact HSub.pick 1 rfl (HSub.nil _)

end Go.Proofs
/- Canonical forms, part j: the memory behind the library's sort, in the words of the proof layer. -/
namespace Go.V
open Go Go.Shelf Go.RowKit Go.Lib Go.Sort Go.Proofs
variable {α : Type} [Inhabited α]
theorem sortW_at (enc : α → Value) (w : World) (blk m : Nat) (d : Array α) (os : Array Obj) {cur : Array Value} {e : TypeId} {fz : Nat × Nat} (h : w.heap[blk]? = some (.cells cur e fz)) : (sortWorld enc w blk 0 m d os).heap[blk]? = some (.cells (putCells enc 0 d cur) e fz) := by
  have hb : blk < w.heap.size := by
    rcases Nat.lt_or_ge blk w.heap.size with h1 | h1
    · exact h1
    · rw [Array.getElem?_eq_none h1] at h; cases h
  unfold sortWorld
  rw [heap_grow_old _ _ (by simp [putRow, mapBlock]; exact hb)]
  simp [putRow, mapBlock, Array.getElem?_modify, h, onCells]
theorem sortW_old [Flow] (enc : α → Value) (w : World) (blk m : Nat) (d : Array α) (os : Array Obj) : Old (fun c => c = blk) w (sortWorld enc w blk 0 m d os) := by
  refine ⟨rfl, rfl, rfl, ?_, fun k hk hn => ?_, fun _ => ?_⟩
  · simp [sortWorld, putRow, mapBlock]
  · unfold sortWorld
    rw [heap_grow_old _ _ (by simp [putRow, mapBlock]; exact hk)]
    have : ¬ blk = k := fun e => hn e.symm
    simp [putRow, mapBlock, Array.getElem?_modify, this]
  · simp [sortWorld, putRow, mapBlock, grow]
theorem putCells_all (enc : α → Value) (d : Array α) {cur : Array Value} (h : cur.size = d.size) : (putCells enc 0 d cur).toList = d.toList.map enc := by
  apply List.ext_getElem?
  intro k
  rw [Array.getElem?_toList, putCells, Array.getElem?_mapIdx, List.getElem?_map, Array.getElem?_toList]
  by_cases hk : k < d.size
  · rw [Array.getElem?_eq_getElem (by omega : k < cur.size), Array.getElem?_eq_getElem hk]
    simp [hk]
  · rw [Array.getElem?_eq_none (by omega), Array.getElem?_eq_none (by omega)]; rfl
theorem putCells_size (enc : α → Value) (d : Array α) (cur : Array Value) : (putCells enc 0 d cur).size = cur.size := by simp [putCells]
theorem putCells_take (enc : α → Value) (d : Array α) {cur : Array Value} (h : d.size ≤ cur.size) : (putCells enc 0 d cur).toList.take d.size = d.toList.map enc := by
  apply List.ext_getElem?
  intro k
  rw [List.getElem?_take, List.getElem?_map, Array.getElem?_toList]
  by_cases hk : k < d.size
  · rw [if_pos hk, Array.getElem?_toList, putCells, Array.getElem?_mapIdx, Array.getElem?_eq_getElem (by omega : k < cur.size), Array.getElem?_eq_getElem hk]
    simp [hk]
  · rw [if_neg hk, List.getElem?_eq_none (by simp; omega)]; rfl
theorem old_grow {W w' : World} (h : @Old ⟨True⟩ Nil W w') : ∃ q os', w' = grow (W.drewN q) os' := by
  refine ⟨w'.drawn - W.drawn, w'.heap.extract W.heap.size w'.heap.size, ?_⟩
  obtain ⟨h1, h2, h3, h4, h5, h6⟩ := h
  have h6 := h6 trivial
  have hh : w'.heap = W.heap ++ w'.heap.extract W.heap.size w'.heap.size := by
    apply Array.ext_getElem?
    intro k
    rw [Array.getElem?_append]
    split
    · rename_i hk; exact h5 k hk (fun x => x)
    · rename_i hk
      rw [Array.getElem?_extract]
      by_cases hw : k < w'.heap.size
      · rw [if_pos (by omega)]; congr 1; omega
      · rw [Array.getElem?_eq_none (by omega), if_neg (by omega)]
  obtain ⟨a1, a2, a3, a4, a5⟩ := w'
  obtain ⟨b1, b2, b3, b4, b5⟩ := W
  simp only at h1 h2 h3 h4 h6 hh
  subst h1; subst h2; subst h3
  show World.mk _ _ _ _ _ = World.mk (b1 ++ _) _ (b3 + (a3 - b3)) _ _
  have e3 : b3 + (a3 - b3) = a3 := by omega
  rw [e3]
  exact congrArg (fun z => World.mk z _ _ _ _) hh
end Go.V
/-
  DERIVED: THE SHELF's CONTRACTS AT THIS DUMP, IN PLAIN WORDS (tools/lay-plain.mjs out of 'TrySortIShelf.lean', which tools/lay-shelf.mjs wrote): THE SAME DECLARATIONS UNDER THE SAME NAMES: 'import', 'namespace', 'open', 'def', 'theorem' AND NOTHING ELSE: no command of the shelf's: FOR A HAND-IN. Each laying: the table of numbers ('.._ren') and one theorem, a field a fact of the dump's own or the kernel's comparison; each contract: ONE APPLICATION.
-/
namespace Go.Proofs
open Go.Shelf
def Tryz.sortI_ren : Go.Shelf.Ren := ⟨fun | 189 => 121 | 125 => 85 | 257 => 153 | 128 => 118 | 129 => 119 | 294 => 165 | 295 => 166 | 296 => 167 | 297 => 168 | 298 => 169 | 299 => 170 | 216 => 171 | 300 => 172 | 301 => 173 | 328 => 178 | 329 => 148 | 330 => 149 | 331 => 179 | 332 => 180 | 215 => 146 | 343 => 181 | n => n, fun | 28 => 36 | 3 => 3 | 46 => 140 | 0 => 0 | 51 => 178 | 53 => 180 | 4 => 4 | 183 => 172 | 182 => 171 | 131 => 168 | 5 => 5 | 9 => 9 | 218 => 203 | 222 => 207 | 228 => 222 | 229 => 223 | n => n, fun | n => n⟩
theorem Tryz.sortI : Go.Proofs.Lays.n189 Tryz.prog Tryz.sortI_ren := {
  mixed := by kernel_rfl
  f125 := Tryz.func85.trans (congrArg some (by kernel_rfl))
  f128 := Tryz.func118.trans (congrArg some (by kernel_rfl))
  f129 := Tryz.func119.trans (congrArg some (by kernel_rfl))
  f189 := Tryz.func121.trans (congrArg some (by kernel_rfl))
  f215 := Tryz.func146.trans (congrArg some (by kernel_rfl))
  f216 := Tryz.func171.trans (congrArg some (by kernel_rfl))
  f257 := Tryz.func153.trans (congrArg some (by kernel_rfl))
  f294 := Tryz.func165.trans (congrArg some (by kernel_rfl))
  f295 := Tryz.func166.trans (congrArg some (by kernel_rfl))
  f296 := Tryz.func167.trans (congrArg some (by kernel_rfl))
  f297 := Tryz.func168.trans (congrArg some (by kernel_rfl))
  f298 := Tryz.func169.trans (congrArg some (by kernel_rfl))
  f299 := Tryz.func170.trans (congrArg some (by kernel_rfl))
  f300 := Tryz.func172.trans (congrArg some (by kernel_rfl))
  f301 := Tryz.func173.trans (congrArg some (by kernel_rfl))
  f328 := Tryz.func178.trans (congrArg some (by kernel_rfl))
  f329 := Tryz.func148.trans (congrArg some (by kernel_rfl))
  f330 := Tryz.func149.trans (congrArg some (by kernel_rfl))
  f331 := Tryz.func179.trans (congrArg some (by kernel_rfl))
  f332 := Tryz.func180.trans (congrArg some (by kernel_rfl))
  f343 := Tryz.func181.trans (congrArg some (by kernel_rfl))
  t0 := Tryz.underlying0
  a0 := Tryz.isAgg0
  z0 := Tryz.sizeOf0
  v0 := Tryz.zeroValue0
  t3 := Tryz.underlying3
  a3 := Tryz.isAgg3
  z3 := Tryz.sizeOf3
  v3 := Tryz.zeroValue3
  t4 := Tryz.underlying4
  a4 := Tryz.isAgg4
  z4 := Tryz.sizeOf4
  v4 := Tryz.zeroValue4
  t5 := Tryz.underlying5
  a5 := Tryz.isAgg5
  z5 := Tryz.sizeOf5
  v5 := Tryz.zeroValue5
  t9 := Tryz.underlying9
  a9 := Tryz.isAgg9
  z9 := Tryz.sizeOf9
  v9 := Tryz.zeroValue9
  t28 := Tryz.underlying36
  a28 := Tryz.isAgg36
  z28 := Tryz.sizeOf36
  v28 := Tryz.zeroValue36
  t46 := Tryz.underlying140
  a46 := Tryz.isAgg140
  z46 := Tryz.sizeOf140
  v46 := Tryz.zeroValue140
  t51 := Tryz.underlying178
  a51 := Tryz.isAgg178
  z51 := Tryz.sizeOf178
  v51 := Tryz.zeroValue178
  t53 := Tryz.underlying180
  a53 := Tryz.isAgg180
  z53 := Tryz.sizeOf180
  v53 := Tryz.zeroValue180
  t131 := Tryz.underlying168
  a131 := Tryz.isAgg168
  z131 := Tryz.sizeOf168
  v131 := Tryz.zeroValue168
  t182 := Tryz.underlying171
  a182 := Tryz.isAgg171
  z182 := Tryz.sizeOf171
  v182 := Tryz.zeroValue171
  t183 := Tryz.underlying172
  a183 := Tryz.isAgg172
  z183 := Tryz.sizeOf172
  v183 := Tryz.zeroValue172
  t218 := Tryz.underlying203
  a218 := Tryz.isAgg203
  z218 := Tryz.sizeOf203
  v218 := Tryz.zeroValue203
  t222 := Tryz.underlying207
  a222 := Tryz.isAgg207
  z222 := Tryz.sizeOf207
  v222 := Tryz.zeroValue207
  t228 := Tryz.underlying222
  a228 := Tryz.isAgg222
  z228 := Tryz.sizeOf222
  v228 := Tryz.zeroValue222
  t229 := Tryz.underlying223
  a229 := Tryz.isAgg223
  z229 := Tryz.sizeOf223
  v229 := Tryz.zeroValue223 }
end Go.Proofs
/- The sort of the library, over numbers. -/
namespace Go.Proofs
open Go Go.V Go.Shelf Go.RowKit Go.Sort
theorem ints_map (xs : List Int) : ints xs = xs.map (Value.int .i64) := rfl
theorem z_SortI (v : Value) (xs : List Int) (hsz : xs.length < 4611686018427387904) (w : World) (hs0 : Sym w (SK [HL.own 3 1 v xs.length (ints xs)]) [HL.own 3 1 v xs.length (ints xs)] w) :
    Gives Tryz.prog 121 #[v] w (SK [HL.own 3 1 v xs.length (ints xs)]) (fun _ : Unit => True) (fun _ => .tuple #[]) (fun _ => [HL.own 3 1 v xs.length (ints (sortI xs))]) := by
  have ho : w.ownsRow 0 3 1 v xs.length (ints xs) := hs0.own (i := 0) rfl
  rcases ho.2 with ⟨rfl, h0⟩ | ⟨g, cap, cur, rfl, _, hg, hnc, hcm, hcs, htk⟩
  · obtain rfl : xs = [] := List.length_eq_zero_iff.1 h0
    have hcon := Any.slices_Sort_int_none Tryz.sortI none 0 w
    change Calls Tryz.prog 121 _ _ _ at hcon
    refine Calls.mono hcon ?_
    rintro e w' ⟨rfl, rfl⟩
    refine ⟨(), trivial, rfl, ?_⟩
    show Sym _ _ [HL.own 3 1 _ _ (ints (sortI []))] _
    rw [show sortI [] = [] from List.mergeSort_nil]; exact hs0
  · have hblk : g < w.heap.size := (hs0.supp _ List.mem_cons_self g rfl).1
    have hn : xs.toArray.size = xs.length := by simp
    have hH : Holds (Value.int .i64) w g 0 xs.toArray := fun j hj => by
      rw [hn] at hj
      refine ⟨?_, frozen_free hg⟩
      rw [Nat.zero_add]
      refine cell_of_obj hg ?_
      have h1 : (cur.toList.take (xs.length * 1))[j]? = (ints xs)[j]? := by rw [htk]
      rw [List.getElem?_take, if_pos (by omega), Array.getElem?_toList, ints_map, List.getElem?_map, List.getElem?_eq_getElem hj] at h1
      rw [h1, getElem!_pos xs.toArray j (by simpa using hj)]
      simp
    have hcon := Any.slices_Sort_int Tryz.sortI g 0 cap xs w hH hblk hsz
    change Calls Tryz.prog 121 _ _ _ at hcon
    refine Calls.mono hcon ?_
    rintro e w' ⟨rfl, m, os, rfl⟩
    have hl : (sortI xs).toArray.size = xs.length := by simp [sortI_len]
    have hat := sortW_at (Value.int .i64) w g m (sortI xs).toArray os hg
    have hold : Old (SK [HL.own 3 1 (.slice (some ⟨g, 0, none⟩) xs.length cap) xs.length (ints xs)]) w (sortWorld (Value.int .i64) w g 0 m (sortI xs).toArray os) :=
      (sortW_old (Value.int .i64) w g m (sortI xs).toArray os).mono fun k _ hk => ⟨_, List.mem_cons_self, by rw [hk]; rfl⟩
    refine ⟨(), trivial, rfl, hold, fun h hm => ?_, fun h hm b hb => ?_, List.pairwise_singleton _ _⟩
    · rw [List.mem_singleton.1 hm]
      refine ⟨by simp [ints, sortI_len], .inr ⟨g, cap, _, rfl, Nat.zero_le _, hat, hnc, hcm, by rw [putCells_size]; exact hcs, ?_⟩⟩
      have := putCells_take (Value.int .i64) (sortI xs).toArray (cur := cur) (by rw [hl]; omega)
      rw [hl] at this
      rw [Nat.mul_one, this, ints_map]
    · rw [List.mem_singleton.1 hm] at hb
      have e : g = b := Option.some.inj hb
      subst e
      exact ⟨Nat.lt_of_lt_of_le hblk hold.size, .inr ⟨_, List.mem_cons_self, rfl⟩⟩
end Go.Proofs
/- Codes compared, as the program compares them. -/
namespace Go.Proofs
open Go Go.V
set_option maxRecDepth 20000
theorem eqRow [Flow] (d : Nat) (a b c f s a' b' c' f' s' : Int) (w : World) : (Op.equalIn (d + 2) 91 (.agg #[iv a, iv b, iv c, iv f, iv s]) (.agg #[iv a', iv b', iv c', iv f', iv s'])).run Tryz.prog w = .ok (decide (a = a' ∧ b = b' ∧ c = c' ∧ f = f' ∧ s = s')) w :=
  eq_arr5 Tryz.underlying91 Tryz.underlying3 (by kernel_rfl : Tryz.prog.info? 3 = some Tryz.t3) (by kernel_rfl) d a b c f s a' b' c' f' s' w
theorem cr_eq (x y : Cr) : (x.a0 = y.a0 ∧ x.a1 = y.a1 ∧ x.a2 = y.a2 ∧ x.a3 = y.a3 ∧ x.s = y.s) ↔ x = y := by
  cases x; cases y; simp

theorem z_isNaN [Flow] (x : Int) (w : World) : Gives Tryz.prog 146 #[iv x] w Nil (fun _ : Unit => True) (fun _ => .bool false) (fun _ => []) := by
  refine fn_of_run (S := Nil) (args := [iv x]) (n := 6) (L := []) Tryz.func146 rfl Tryz.ntmps146 (Nat.le_of_ble_eq_true rfl) (Sym.nil _ _) ?_
  change RunC _ _ _ [(0, _)] _
  refine RunC.seq ?_
  refine RunC.region ?_
  refine RunL.still rfl rfl rfl (Still.assign rfl rfl) ?_
  refine RunL.nil ?_
  refine Ends.then ?_
  refine RunC.seq ?_
  refine RunC.region ?_
  refine RunL.still rfl rfl rfl (Still.move rfl rfl) ?_
  refine RunL.still rfl rfl rfl (Still.move rfl rfl) ?_
  refine RunL.still rfl rfl rfl (Still.neq rfl rfl rfl) ?_
  refine RunL.still rfl rfl rfl (Still.assign rfl rfl) ?_
  refine RunL.nil ?_
  refine Ends.then ?_
  refine RunC.ret ?_
  refine Ends.leave (.inl rfl) (fun _ _ ok => results1 Tryz.results146 (Holds.tmp rfl) ok) (fun w1 hs => ?_)
  exact Ret.intro () trivial (congrArg Value.bool (by simp)) (HSub.nil _) hs

theorem z_cmp [Flow] (x y : Int) (w : World) : Gives Tryz.prog 109 #[iv x, iv y] w Nil (fun _ : Unit => True) (fun _ => iv (cmpI x y)) (fun _ => []) := by
  refine fn_of_run (S := Nil) (args := [iv x, iv y]) (n := 20) (L := []) Tryz.func109 rfl Tryz.ntmps109 (Nat.le_of_ble_eq_true rfl) (Sym.nil _ _) ?_
  change RunC _ _ _ [(0, _), (1, _)] _
  refine RunC.seq ?_
  refine RunC.region ?_
  refine RunL.still rfl rfl rfl (Still.assign rfl rfl) ?_
  refine RunL.nil ?_
  refine Ends.then ?_
  refine RunC.seq ?_
  refine RunC.region ?_
  refine RunL.still rfl rfl rfl (Still.move rfl rfl) ?_
  refine RunL.grows rfl rfl rfl (Grows.call (vs := #[_]) rfl rfl Tryz.call146 (fun w hs => z_isNaN x w)) (fun _ _ => ?_)
  refine RunL.still rfl rfl rfl (Still.assign rfl rfl) ?_
  refine RunL.nil ?_
  refine Ends.then ?_
  refine RunC.seq ?_
  refine RunC.region ?_
  refine RunL.still rfl rfl rfl (Still.move rfl rfl) ?_
  refine RunL.grows rfl rfl rfl (Grows.call (vs := #[_]) rfl rfl Tryz.call146 (fun w hs => z_isNaN y w)) (fun _ _ => ?_)
  refine RunL.still rfl rfl rfl (Still.assign rfl rfl) ?_
  refine RunL.nil ?_
  refine Ends.then ?_
  refine RunC.seq ?_
  refine RunC.seq ?_
  refine RunC.region ?_
  refine RunL.still rfl rfl rfl (Still.move rfl rfl) ?_
  refine RunL.nil ?_
  refine Ends.then ?_
  refine RunC.cond_false rfl ?_
  refine RunC.skip ?_
  refine Ends.then ?_
  refine RunC.seq ?_
  refine RunC.seq ?_
  refine RunC.region ?_
  refine RunL.still rfl rfl rfl (Still.move rfl rfl) ?_
  refine RunL.nil ?_
  refine Ends.then ?_
  refine RunC.cond_false rfl ?_
  refine RunC.skip ?_
  refine Ends.then ?_
  refine RunC.seq ?_
  refine RunC.seq ?_
  refine RunC.region ?_
  refine RunL.still rfl rfl rfl (Still.move rfl rfl) ?_
  refine RunL.still rfl rfl rfl (Still.move rfl rfl) ?_
  refine RunL.still rfl rfl rfl (Still.lss rfl rfl rfl) ?_
  refine RunL.nil ?_
  refine Ends.then ?_
  refine RunC.cond rfl (fun h16 => ?_) (fun h16 => ?_)
  · have h16 := of_decide_eq_true h16
    refine RunC.seq ?_
    refine RunC.region ?_
    refine RunL.still rfl rfl rfl (Still.assign rfl rfl) ?_
    refine RunL.nil ?_
    refine Ends.then ?_
    refine RunC.ret ?_
    refine Ends.then_ret ?_
    refine Ends.leave (.inl rfl) (fun _ _ ok => results1 Tryz.results109 (Holds.tmp rfl) ok) (fun w1 hs => ?_)
    exact Ret.intro () trivial ((congrArg iv (cmpI_lt h16)).symm) (HSub.nil _) hs
  · have h16 := of_decide_eq_false h16
    refine RunC.skip ?_
    refine Ends.then ?_
    refine RunC.seq ?_
    refine RunC.seq ?_
    refine RunC.region ?_
    refine RunL.still rfl rfl rfl (Still.move rfl rfl) ?_
    refine RunL.still rfl rfl rfl (Still.move rfl rfl) ?_
    refine RunL.still rfl rfl rfl (Still.gtr rfl rfl rfl) ?_
    refine RunL.nil ?_
    refine Ends.then ?_
    refine RunC.cond rfl (fun h19 => ?_) (fun h19 => ?_)
    · have h19 := of_decide_eq_true h19
      refine RunC.seq ?_
      refine RunC.region ?_
      refine RunL.still rfl rfl rfl (Still.assign rfl rfl) ?_
      refine RunL.nil ?_
      refine Ends.then ?_
      refine RunC.ret ?_
      refine Ends.then_ret ?_
      refine Ends.leave (.inl rfl) (fun _ _ ok => results1 Tryz.results109 (Holds.tmp rfl) ok) (fun w2 hs => ?_)
      exact Ret.intro () trivial ((congrArg iv (cmpI_gt h19)).symm) (HSub.nil _) hs
    · have h19 := of_decide_eq_false h19
      refine RunC.skip ?_
      refine Ends.then ?_
      refine RunC.seq ?_
      refine RunC.region ?_
      refine RunL.still rfl rfl rfl (Still.assign rfl rfl) ?_
      refine RunL.nil ?_
      refine Ends.then ?_
      refine RunC.ret ?_
      refine Ends.leave (.inl rfl) (fun _ _ ok => results1 Tryz.results109 (Holds.tmp rfl) ok) (fun w3 hs => ?_)
      exact Ret.intro () trivial (congrArg iv (by rw [show x = y by omega, cmpI_self])) (HSub.nil _) hs

theorem z_Compare [Flow] (u v : Value) (xs ys : List Int) (w : World) (su : Shape u xs.length) (sv : Shape v ys.length) (hl : xs.length ≤ 9223372036854775806) (_hm : ys.length ≤ 9223372036854775806) (cu : Cells w (vaddr u) (ints xs)) (cv : Cells w (vaddr v) (ints ys)) : Gives Tryz.prog 83 #[u, v] w Nil (fun _ : Unit => True) (fun _ => iv (cmpL cmpI xs ys)) (fun _ => []) := by
  refine fn_of_run (S := Nil) (args := [u, v]) (n := 36) (L := []) Tryz.func83 rfl Tryz.ntmps83 (Nat.le_of_ble_eq_true rfl) (Sym.nil _ _) ?_
  change RunC _ _ _ [(0, _), (1, _)] _
  refine RunC.seq ?_
  refine RunC.region ?_
  refine RunL.still rfl rfl rfl (Still.assign rfl rfl) ?_
  refine RunL.nil ?_
  refine Ends.then ?_
  refine RunC.seq ?_
  refine RunC.seq ?_
  refine RunC.region ?_
  refine RunL.still rfl rfl rfl (Still.move rfl rfl) ?_
  refine RunL.still rfl rfl rfl (Still.lenV rfl rfl Tryz.underlying36 (su)) ?_
  refine RunL.still rfl rfl rfl (Still.move rfl rfl) ?_
  refine RunL.nil ?_
  refine Ends.then ?_
  refine RunC.block ?_
  refine RunC.loop2 (γ := Nat) (keep := [(0, _), (1, _), (9, _), (10, _)]) (hkeep := []) (fun i => i ≤ xs.length ∧ i ≤ ys.length ∧ cmpL cmpI xs ys = cmpL cmpI (xs.drop i) (ys.drop i)) (fun i => xs.length - i) (fun i => [(11, iv i)]) (fun i => []) 0 ⟨Nat.zero_le _, Nat.zero_le _, rfl⟩ (Fr.Sub.cons rfl (Fr.Sub.nil _)) (Fr.Sub.cons rfl (Fr.Sub.cons rfl (Fr.Sub.cons rfl (Fr.Sub.cons rfl (Fr.Sub.nil _))))) (HSub.nil _) ?_
  rintro i ⟨hi, hj, hc⟩
  have hi : i ≤ xs.length := hi
  have hj : i ≤ ys.length := hj
  refine RunC.seq ?_
  refine RunC.region ?_
  refine RunL.still rfl rfl rfl (Still.lss rfl rfl rfl) ?_
  refine RunL.nil ?_
  refine Ends.then ?_
  refine RunC.seq ?_
  refine RunC.cond rfl (fun h12 => ?_) (fun h12 => ?_)
  · have h12 := of_decide_eq_true h12
    obtain ⟨x, hx⟩ := get_of_lt (l := xs) (i := i) (by omega)
    refine RunC.skip ?_
    refine Ends.then ?_
    refine RunC.seq ?_
    refine RunC.block ?_
    refine RunC.seq ?_
    refine RunC.region ?_
    refine RunL.still rfl rfl rfl (Still.move rfl rfl) ?_
    refine RunL.still rfl rfl rfl (Still.indexV _ rfl rfl rfl Tryz.underlying36 Tryz.sizeOf3 (su) (rfl) (by omega)) ?_
    refine RunL.still rfl rfl rfl (Still.load rfl rfl Tryz.isAgg3 (fun _ hs => cells_at (Cells.base0 cu hs) (ints_get hx))) ?_
    refine RunL.still rfl rfl rfl (Still.assign rfl rfl) ?_
    refine RunL.still rfl rfl rfl (Still.assign rfl rfl) ?_
    refine RunL.nil ?_
    refine Ends.then ?_
    refine RunC.seq ?_
    refine RunC.seq ?_
    refine RunC.region ?_
    refine RunL.still rfl rfl rfl (Still.move rfl rfl) ?_
    refine RunL.still rfl rfl rfl (Still.move rfl rfl) ?_
    refine RunL.still rfl rfl rfl (Still.lenV rfl rfl Tryz.underlying36 (sv)) ?_
    refine RunL.still rfl rfl rfl (Still.geq rfl rfl rfl) ?_
    refine RunL.nil ?_
    refine Ends.then ?_
    refine RunC.cond rfl (fun h19 => ?_) (fun h19 => ?_)
    · have h19 := of_decide_eq_true h19
      refine RunC.seq ?_
      refine RunC.region ?_
      refine RunL.still rfl rfl rfl (Still.assign rfl rfl) ?_
      refine RunL.nil ?_
      refine Ends.then ?_
      refine RunC.ret ?_
      refine Ends.then_ret ?_
      refine Ends.block_ret ?_
      refine Ends.then_ret ?_
      refine Ends.then_ret ?_
      refine Ends.block_ret ?_
      refine Ends.then_ret ?_
      refine Ends.leave (.inl rfl) (fun _ _ ok => results1 Tryz.results83 (Holds.tmp rfl) ok) (fun w1 hs => ?_)
      exact Ret.intro () trivial (congrArg iv (by rw [hc, drop_at hx, show ys.drop i = [] from List.drop_eq_nil_of_le (by omega)]; rfl)) (HSub.nil _) hs
    · have h19 := of_decide_eq_false h19
      obtain ⟨y, hy⟩ := get_of_lt (l := ys) (i := i) (by omega)
      refine RunC.skip ?_
      refine Ends.then ?_
      refine RunC.seq ?_
      refine RunC.region ?_
      refine RunL.still rfl rfl rfl (Still.move rfl rfl) ?_
      refine RunL.still rfl rfl rfl (Still.move rfl rfl) ?_
      refine RunL.still rfl rfl rfl (Still.indexV _ rfl rfl rfl Tryz.underlying36 Tryz.sizeOf3 (sv) (rfl) (by omega)) ?_
      refine RunL.still rfl rfl rfl (Still.load rfl rfl Tryz.isAgg3 (fun _ hs => cells_at (Cells.base0 cv hs) (ints_get hy))) ?_
      refine RunL.still rfl rfl rfl (Still.assign rfl rfl) ?_
      refine RunL.nil ?_
      refine Ends.then ?_
      refine RunC.seq ?_
      refine RunC.region ?_
      refine RunL.still rfl rfl rfl (Still.move rfl rfl) ?_
      refine RunL.still rfl rfl rfl (Still.move rfl rfl) ?_
      refine RunL.grows rfl rfl rfl (Grows.call (vs := #[_, _]) rfl rfl Tryz.call109 (fun w hs => z_cmp x y w)) (fun _ _ => ?_)
      refine RunL.still rfl rfl rfl (Still.assign rfl rfl) ?_
      refine RunL.nil ?_
      refine Ends.then ?_
      refine RunC.seq ?_
      refine RunC.region ?_
      refine RunL.still rfl rfl rfl (Still.move rfl rfl) ?_
      refine RunL.still rfl rfl rfl (Still.neq rfl rfl rfl) ?_
      refine RunL.nil ?_
      refine Ends.then ?_
      refine RunC.cond rfl (fun h28 => ?_) (fun h28 => ?_)
      · have h28 := of_decide_eq_true h28
        refine RunC.seq ?_
        refine RunC.region ?_
        refine RunL.still rfl rfl rfl (Still.move rfl rfl) ?_
        refine RunL.still rfl rfl rfl (Still.assign rfl rfl) ?_
        refine RunL.nil ?_
        refine Ends.then ?_
        refine RunC.ret ?_
        refine Ends.block_ret ?_
        refine Ends.then_ret ?_
        refine Ends.then_ret ?_
        refine Ends.block_ret ?_
        refine Ends.then_ret ?_
        refine Ends.leave (.inl rfl) (fun _ _ ok => results1 Tryz.results83 (Holds.tmp rfl) ok) (fun w2 hs => ?_)
        exact Ret.intro () trivial (congrArg iv (by rw [hc, drop_at hx, drop_at hy, cmpL, if_pos h28])) (HSub.nil _) hs
      · have h28 := of_decide_eq_false h28
        refine RunC.skip ?_
        refine Ends.block ?_
        refine Ends.then ?_
        refine RunC.region ?_
        refine RunL.still rfl rfl rfl (Still.add rfl rfl rfl (fits64 (by omega) (by omega))) ?_
        refine RunL.still rfl rfl rfl (Still.move rfl rfl) ?_
        refine RunL.nil ?_
        refine Ends.again (i + 1) ?_ ?_ (Fr.Sub.app ?_ ?_) ?_
        · exact ⟨by show i + 1 ≤ _; omega, by show i + 1 ≤ _; omega, hc.trans (by rw [drop_at hx, drop_at hy, cmpL, if_neg h28])⟩
        · show _ - (i + 1) < _ - i; omega
        · exact Fr.Sub.cons rfl (Fr.Sub.nil _)
        · exact Fr.Sub.cons rfl (Fr.Sub.cons rfl (Fr.Sub.cons rfl (Fr.Sub.cons rfl (Fr.Sub.nil _))))
        · exact HSub.nil _
  · have h12 := of_decide_eq_false h12
    obtain rfl : i = xs.length := by omega
    refine RunC.exit ?_
    refine Ends.then_exit ?_
    refine Ends.then_exit ?_
    refine Ends.block_exit ?_
    refine Ends.then ?_
    refine RunC.seq ?_
    refine RunC.seq ?_
    refine RunC.region ?_
    refine RunL.still rfl rfl rfl (Still.move rfl rfl) ?_
    refine RunL.still rfl rfl rfl (Still.lenV rfl rfl Tryz.underlying36 (su)) ?_
    refine RunL.still rfl rfl rfl (Still.move rfl rfl) ?_
    refine RunL.still rfl rfl rfl (Still.lenV rfl rfl Tryz.underlying36 (sv)) ?_
    refine RunL.still rfl rfl rfl (Still.lss rfl rfl rfl) ?_
    refine RunL.nil ?_
    refine Ends.then ?_
    refine RunC.cond rfl (fun h35 => ?_) (fun h35 => ?_)
    · have h35 := of_decide_eq_true h35
      refine RunC.seq ?_
      refine RunC.region ?_
      refine RunL.still rfl rfl rfl (Still.assign rfl rfl) ?_
      refine RunL.nil ?_
      refine Ends.then ?_
      refine RunC.ret ?_
      refine Ends.then_ret ?_
      refine Ends.leave (.inl rfl) (fun _ _ ok => results1 Tryz.results83 (Holds.tmp rfl) ok) (fun w3 hs => ?_)
      exact Ret.intro () trivial (congrArg iv (by obtain ⟨y, hy⟩ := get_of_lt (l := ys) (i := xs.length) (by omega); rw [hc, drop_at hy, List.drop_length]; rfl)) (HSub.nil _) hs
    · have h35 := of_decide_eq_false h35
      refine RunC.skip ?_
      refine Ends.then ?_
      refine RunC.seq ?_
      refine RunC.region ?_
      refine RunL.still rfl rfl rfl (Still.assign rfl rfl) ?_
      refine RunL.nil ?_
      refine Ends.then ?_
      refine RunC.ret ?_
      refine Ends.leave (.inl rfl) (fun _ _ ok => results1 Tryz.results83 (Holds.tmp rfl) ok) (fun w4 hs => ?_)
      exact Ret.intro () trivial (congrArg iv (by rw [hc, List.drop_length, show ys.drop xs.length = [] from List.drop_eq_nil_of_le (by omega)]; rfl)) (HSub.nil _) hs

theorem z_compared1 [Flow] (x y : Cr) (w : World) : Gives Tryz.prog 82 #[crV x, crV y] w Nil (fun _ : Unit => True) (fun _ => iv (cmpX x y)) (fun _ => []) := by
  refine fn_of_run (S := Nil) (args := [crV x, crV y]) (n := 11) (L := []) Tryz.func82 rfl Tryz.ntmps82 (Nat.le_of_ble_eq_true rfl) (Sym.nil _ _) ?_
  change RunC _ _ _ [(0, _), (1, _)] _
  refine RunC.seq ?_
  refine RunC.region ?_
  refine RunL.grows rfl rfl rfl (Grows.box rfl rfl) (fun b2 _ => ?_)
  refine RunL.grows rfl rfl rfl (Grows.box rfl rfl) (fun b3 _ => ?_)
  refine RunL.still rfl rfl rfl (Still.assign rfl rfl) ?_
  refine RunL.nil ?_
  refine Ends.then ?_
  refine RunC.seq ?_
  refine RunC.seq ?_
  refine RunC.region ?_
  refine RunL.still rfl rfl rfl (Still.loads rfl rfl Tryz.isAgg91 Tryz.sizeOf91 (vs := [_, _, _, _, _]) rfl (fun _ hs => cells_nth (hs.at (i := 1) rfl) ⟨rfl, ⟨rfl, ⟨rfl, ⟨rfl, ⟨rfl, trivial⟩⟩⟩⟩⟩)) ?_
  refine RunL.still rfl rfl rfl (Still.loads rfl rfl Tryz.isAgg91 Tryz.sizeOf91 (vs := [_, _, _, _, _]) rfl (fun _ hs => cells_nth (hs.at (i := 0) rfl) ⟨rfl, ⟨rfl, ⟨rfl, ⟨rfl, ⟨rfl, trivial⟩⟩⟩⟩⟩)) ?_
  refine RunL.still rfl rfl rfl (Still.eqlAgg rfl rfl rfl Tryz.eqGuardType91 (fun _ => eqRow _ _ _ _ _ _ _ _ _ _ _ _)) ?_
  refine RunL.nil ?_
  refine Ends.then ?_
  refine RunC.cond rfl (fun h7 => ?_) (fun h7 => ?_)
  · have h7 := (cr_eq x y).1 (of_decide_eq_true h7)
    refine RunC.seq ?_
    refine RunC.region ?_
    refine RunL.still rfl rfl rfl (Still.assign rfl rfl) ?_
    refine RunL.nil ?_
    refine Ends.then ?_
    refine RunC.ret ?_
    refine Ends.then_ret ?_
    refine Ends.leave (.inl rfl) (fun _ _ ok => results1 Tryz.results82 (Holds.tmp rfl) ok) (fun w1 hs => ?_)
    exact Ret.intro () trivial (congrArg iv (by rw [cmpX, if_pos h7])) (HSub.nil _) hs
  · have h7 : x ≠ y := fun k => of_decide_eq_false h7 ((cr_eq x y).2 k)
    refine RunC.skip ?_
    refine Ends.then ?_
    refine RunC.seq ?_
    refine RunC.anyK (by kernel_rfl) ?_
    refine RunK.still [] rfl rfl rfl rfl rfl rfl (Still.sliceArr rfl rfl Tryz.underlying91 Tryz.sizeOf3) ?_
    refine RunK.still [] rfl rfl rfl rfl rfl rfl (Still.sliceArr rfl rfl Tryz.underlying91 Tryz.sizeOf3) ?_
    refine RunK.grows [8, 9] rfl rfl rfl rfl rfl rfl (Grows.call (vs := #[_, _]) rfl rfl Tryz.call83 (fun w hs => z_Compare (.slice (some ⟨b2, 0, none⟩) 5 5) (.slice (some ⟨b3, 0, none⟩) 5 5) (rowL x) (rowL y) w ⟨_, _, rfl, fun _ => rfl⟩ ⟨_, _, rfl, fun _ => rfl⟩ (show 5 ≤ _ by omega) (show 5 ≤ _ by omega) (cells_nth (hs.at (i := 1) rfl) ⟨rfl, ⟨rfl, ⟨rfl, ⟨rfl, ⟨rfl, trivial⟩⟩⟩⟩⟩) (cells_nth (hs.at (i := 0) rfl) ⟨rfl, ⟨rfl, ⟨rfl, ⟨rfl, ⟨rfl, trivial⟩⟩⟩⟩⟩))) ?_
    refine RunK.still [8, 9, 10] rfl rfl rfl rfl rfl rfl (Still.assign rfl rfl) ?_
    refine RunK.done (by kernel_rfl) rfl ?_
    refine Ends.then ?_
    refine RunC.ret ?_
    refine Ends.leave (.inl rfl) (fun _ _ ok => results1 Tryz.results82 (Holds.tmp rfl) ok) (fun w2 hs => ?_)
    exact Ret.intro () trivial (congrArg iv (by rw [cmpX, if_neg h7])) (HSub.nil _) hs

theorem z_CompareFunc [Flow] (u v : Value) (xs ys : List Cr) (w : World) (su : Shape u xs.length) (sv : Shape v ys.length) (hl : xs.length ≤ 9223372036854775806) (_hm : ys.length ≤ 9223372036854775806) (cu : Cells w (vaddr u) (xs.flatMap encCr)) (cv : Cells w (vaddr v) (ys.flatMap encCr)) : Gives Tryz.prog 81 #[u, v, .func (.func 82) #[] #[]] w Nil (fun _ : Unit => True) (fun _ => iv (cmpL cmpX xs ys)) (fun _ => []) := by
  refine fn_of_run (S := Nil) (args := [u, v, .func (.func 82) #[] #[]]) (n := 39) (L := []) Tryz.func81 rfl Tryz.ntmps81 (Nat.le_of_ble_eq_true rfl) (Sym.nil _ _) ?_
  change RunC _ _ _ [(0, _), (1, _), (2, _)] _
  refine RunC.seq ?_
  refine RunC.region ?_
  refine RunL.still rfl rfl rfl (Still.assign rfl rfl) ?_
  refine RunL.nil ?_
  refine Ends.then ?_
  refine RunC.seq ?_
  refine RunC.seq ?_
  refine RunC.region ?_
  refine RunL.still rfl rfl rfl (Still.move rfl rfl) ?_
  refine RunL.still rfl rfl rfl (Still.lenV rfl rfl Tryz.underlying83 (su)) ?_
  refine RunL.still rfl rfl rfl (Still.move rfl rfl) ?_
  refine RunL.nil ?_
  refine Ends.then ?_
  refine RunC.block ?_
  refine RunC.loop2 (γ := Nat) (keep := [(0, _), (1, _), (2, _), (11, _), (12, _)]) (hkeep := []) (fun i => i ≤ xs.length ∧ i ≤ ys.length ∧ cmpL cmpX xs ys = cmpL cmpX (xs.drop i) (ys.drop i)) (fun i => xs.length - i) (fun i => [(13, iv i)]) (fun i => []) 0 ⟨Nat.zero_le _, Nat.zero_le _, rfl⟩ (Fr.Sub.cons rfl (Fr.Sub.nil _)) (Fr.Sub.cons rfl (Fr.Sub.cons rfl (Fr.Sub.cons rfl (Fr.Sub.cons rfl (Fr.Sub.cons rfl (Fr.Sub.nil _)))))) (HSub.nil _) ?_
  rintro i ⟨hi, hj, hc⟩
  have hi : i ≤ xs.length := hi
  have hj : i ≤ ys.length := hj
  refine RunC.seq ?_
  refine RunC.region ?_
  refine RunL.still rfl rfl rfl (Still.lss rfl rfl rfl) ?_
  refine RunL.nil ?_
  refine Ends.then ?_
  refine RunC.seq ?_
  refine RunC.cond rfl (fun h14 => ?_) (fun h14 => ?_)
  · have h14 := of_decide_eq_true h14
    obtain ⟨x, hx⟩ := get_of_lt (l := xs) (i := i) (by omega)
    refine RunC.skip ?_
    refine Ends.then ?_
    refine RunC.seq ?_
    refine RunC.block ?_
    refine RunC.seq ?_
    refine RunC.region ?_
    refine RunL.still rfl rfl rfl (Still.move rfl rfl) ?_
    refine RunL.still rfl rfl rfl (Still.indexV _ rfl rfl rfl Tryz.underlying83 Tryz.sizeOf91 (su) (rfl) (by omega)) ?_
    refine RunL.still rfl rfl rfl (Still.loads rfl rfl Tryz.isAgg91 Tryz.sizeOf91 (vs := encCr x) rfl (fun _ hs => cells_part (Cells.base0 cu hs) (fun j u h => flat_get encCr_len hx h))) ?_
    refine RunL.grows rfl rfl rfl (Grows.alloc rfl Tryz.zeroValue91) (fun b8 _ => ?_)
    refine RunL.still rfl rfl rfl (Still.assign rfl rfl) ?_
    refine RunL.does0 rfl rfl (Does.store rfl rfl rfl (i := 0) rfl Tryz.sizeOf91 rfl (rfl) rfl) (fun _ _ => ?_)
    refine RunL.nil ?_
    refine Ends.then ?_
    refine RunC.seq ?_
    refine RunC.seq ?_
    refine RunC.region ?_
    refine RunL.still rfl rfl rfl (Still.move rfl rfl) ?_
    refine RunL.still rfl rfl rfl (Still.move rfl rfl) ?_
    refine RunL.still rfl rfl rfl (Still.lenV rfl rfl Tryz.underlying83 (sv)) ?_
    refine RunL.still rfl rfl rfl (Still.geq rfl rfl rfl) ?_
    refine RunL.nil ?_
    refine Ends.then ?_
    refine RunC.cond rfl (fun h21 => ?_) (fun h21 => ?_)
    · have h21 := of_decide_eq_true h21
      refine RunC.seq ?_
      refine RunC.region ?_
      refine RunL.still rfl rfl rfl (Still.assign rfl rfl) ?_
      refine RunL.nil ?_
      refine Ends.then ?_
      refine RunC.ret ?_
      refine Ends.then_ret ?_
      refine Ends.block_ret ?_
      refine Ends.then_ret ?_
      refine Ends.then_ret ?_
      refine Ends.block_ret ?_
      refine Ends.then_ret ?_
      refine Ends.leave (.inl rfl) (fun _ _ ok => results1 Tryz.results81 (Holds.tmp rfl) ok) (fun w1 hs => ?_)
      exact Ret.intro () trivial (congrArg iv (by rw [hc, drop_at hx, show ys.drop i = [] from List.drop_eq_nil_of_le (by omega)]; rfl)) (HSub.nil _) hs
    · have h21 := of_decide_eq_false h21
      obtain ⟨y, hy⟩ := get_of_lt (l := ys) (i := i) (by omega)
      refine RunC.skip ?_
      refine Ends.then ?_
      refine RunC.seq ?_
      refine RunC.region ?_
      refine RunL.still rfl rfl rfl (Still.move rfl rfl) ?_
      refine RunL.still rfl rfl rfl (Still.move rfl rfl) ?_
      refine RunL.still rfl rfl rfl (Still.indexV _ rfl rfl rfl Tryz.underlying83 Tryz.sizeOf91 (sv) (rfl) (by omega)) ?_
      refine RunL.still rfl rfl rfl (Still.loads rfl rfl Tryz.isAgg91 Tryz.sizeOf91 (vs := encCr y) rfl (fun _ hs => cells_part (Cells.base0 cv hs) (fun j u h => flat_get encCr_len hy h))) ?_
      refine RunL.grows rfl rfl rfl (Grows.alloc rfl Tryz.zeroValue91) (fun b9 _ => ?_)
      refine RunL.does0 rfl rfl (Does.store rfl rfl rfl (i := 0) rfl Tryz.sizeOf91 rfl (rfl) rfl) (fun _ _ => ?_)
      refine RunL.nil ?_
      refine Ends.then ?_
      refine RunC.seq ?_
      refine RunC.region ?_
      refine RunL.still rfl rfl rfl (Still.move rfl rfl) ?_
      refine RunL.still rfl rfl rfl (Still.loads rfl rfl Tryz.isAgg91 Tryz.sizeOf91 (vs := [_, _, _, _, _]) rfl (fun _ hs => cells_nth (hs.at (i := 1) rfl) ⟨rfl, ⟨rfl, ⟨rfl, ⟨rfl, ⟨rfl, trivial⟩⟩⟩⟩⟩)) ?_
      refine RunL.still rfl rfl rfl (Still.loads rfl rfl Tryz.isAgg91 Tryz.sizeOf91 (vs := [_, _, _, _, _]) rfl (fun _ hs => cells_nth (hs.at (i := 0) rfl) ⟨rfl, ⟨rfl, ⟨rfl, ⟨rfl, ⟨rfl, trivial⟩⟩⟩⟩⟩)) ?_
      refine RunL.grows rfl rfl rfl (Grows.callV (vs := #[_, _]) rfl rfl rfl Tryz.call82 (fun w hs => z_compared1 x y w)) (fun _ _ => ?_)
      refine RunL.still rfl rfl rfl (Still.assign rfl rfl) ?_
      refine RunL.nil ?_
      refine Ends.then ?_
      refine RunC.seq ?_
      refine RunC.region ?_
      refine RunL.still rfl rfl rfl (Still.move rfl rfl) ?_
      refine RunL.still rfl rfl rfl (Still.neq rfl rfl rfl) ?_
      refine RunL.nil ?_
      refine Ends.then ?_
      refine RunC.cond rfl (fun h31 => ?_) (fun h31 => ?_)
      · have h31 := of_decide_eq_true h31
        refine RunC.seq ?_
        refine RunC.region ?_
        refine RunL.still rfl rfl rfl (Still.move rfl rfl) ?_
        refine RunL.still rfl rfl rfl (Still.assign rfl rfl) ?_
        refine RunL.nil ?_
        refine Ends.then ?_
        refine RunC.ret ?_
        refine Ends.block_ret ?_
        refine Ends.then_ret ?_
        refine Ends.then_ret ?_
        refine Ends.block_ret ?_
        refine Ends.then_ret ?_
        refine Ends.leave (.inl rfl) (fun _ _ ok => results1 Tryz.results81 (Holds.tmp rfl) ok) (fun w2 hs => ?_)
        exact Ret.intro () trivial (congrArg iv (by rw [hc, drop_at hx, drop_at hy, cmpL, if_pos h31])) (HSub.nil _) hs
      · have h31 := of_decide_eq_false h31
        refine RunC.skip ?_
        refine Ends.block ?_
        refine Ends.then ?_
        refine RunC.region ?_
        refine RunL.still rfl rfl rfl (Still.add rfl rfl rfl (fits64 (by omega) (by omega))) ?_
        refine RunL.still rfl rfl rfl (Still.move rfl rfl) ?_
        refine RunL.nil ?_
        refine Ends.again (i + 1) ?_ ?_ (Fr.Sub.app ?_ ?_) ?_
        · exact ⟨by show i + 1 ≤ _; omega, by show i + 1 ≤ _; omega, hc.trans (by rw [drop_at hx, drop_at hy, cmpL, if_neg h31])⟩
        · show _ - (i + 1) < _ - i; omega
        · exact Fr.Sub.cons rfl (Fr.Sub.nil _)
        · exact Fr.Sub.cons rfl (Fr.Sub.cons rfl (Fr.Sub.cons rfl (Fr.Sub.cons rfl (Fr.Sub.cons rfl (Fr.Sub.nil _)))))
        · exact HSub.nil _
  · have h14 := of_decide_eq_false h14
    obtain rfl : i = xs.length := by omega
    refine RunC.exit ?_
    refine Ends.then_exit ?_
    refine Ends.then_exit ?_
    refine Ends.block_exit ?_
    refine Ends.then ?_
    refine RunC.seq ?_
    refine RunC.seq ?_
    refine RunC.region ?_
    refine RunL.still rfl rfl rfl (Still.move rfl rfl) ?_
    refine RunL.still rfl rfl rfl (Still.lenV rfl rfl Tryz.underlying83 (su)) ?_
    refine RunL.still rfl rfl rfl (Still.move rfl rfl) ?_
    refine RunL.still rfl rfl rfl (Still.lenV rfl rfl Tryz.underlying83 (sv)) ?_
    refine RunL.still rfl rfl rfl (Still.lss rfl rfl rfl) ?_
    refine RunL.nil ?_
    refine Ends.then ?_
    refine RunC.cond rfl (fun h38 => ?_) (fun h38 => ?_)
    · have h38 := of_decide_eq_true h38
      refine RunC.seq ?_
      refine RunC.region ?_
      refine RunL.still rfl rfl rfl (Still.assign rfl rfl) ?_
      refine RunL.nil ?_
      refine Ends.then ?_
      refine RunC.ret ?_
      refine Ends.then_ret ?_
      refine Ends.leave (.inl rfl) (fun _ _ ok => results1 Tryz.results81 (Holds.tmp rfl) ok) (fun w3 hs => ?_)
      exact Ret.intro () trivial (congrArg iv (by obtain ⟨y, hy⟩ := get_of_lt (l := ys) (i := xs.length) (by omega); rw [hc, drop_at hy, List.drop_length]; rfl)) (HSub.nil _) hs
    · have h38 := of_decide_eq_false h38
      refine RunC.skip ?_
      refine Ends.then ?_
      refine RunC.seq ?_
      refine RunC.region ?_
      refine RunL.still rfl rfl rfl (Still.assign rfl rfl) ?_
      refine RunL.nil ?_
      refine Ends.then ?_
      refine RunC.ret ?_
      refine Ends.leave (.inl rfl) (fun _ _ ok => results1 Tryz.results81 (Holds.tmp rfl) ok) (fun w4 hs => ?_)
      exact Ret.intro () trivial (congrArg iv (by rw [hc, List.drop_length, show ys.drop xs.length = [] from List.drop_eq_nil_of_le (by omega)]; rfl)) (HSub.nil _) hs

theorem z_compared [Flow] (u v : Value) (xs ys : List Cr) (w : World) (su : Shape u xs.length) (sv : Shape v ys.length) (hl : xs.length ≤ 9223372036854775806) (hm : ys.length ≤ 9223372036854775806) (cu : Cells w (vaddr u) (xs.flatMap encCr)) (cv : Cells w (vaddr v) (ys.flatMap encCr)) : Gives Tryz.prog 48 #[u, v] w Nil (fun _ : Unit => True) (fun _ => iv (cmpC xs ys)) (fun _ => []) := by
  refine fn_of_run (S := Nil) (args := [u, v]) (n := 18) (L := []) Tryz.func48 rfl Tryz.ntmps48 (Nat.le_of_ble_eq_true rfl) (Sym.nil _ _) ?_
  change RunC _ _ _ [(0, _), (1, _)] _
  refine RunC.seq ?_
  refine RunC.region ?_
  refine RunL.still rfl rfl rfl (Still.assign rfl rfl) ?_
  refine RunL.nil ?_
  refine Ends.then ?_
  refine RunC.seq ?_
  refine RunC.seq ?_
  refine RunC.region ?_
  refine RunL.still rfl rfl rfl (Still.move rfl rfl) ?_
  refine RunL.still rfl rfl rfl (Still.lenV rfl rfl Tryz.underlying83 (su)) ?_
  refine RunL.still rfl rfl rfl (Still.move rfl rfl) ?_
  refine RunL.still rfl rfl rfl (Still.lenV rfl rfl Tryz.underlying83 (sv)) ?_
  refine RunL.still rfl rfl rfl (Still.neq rfl rfl rfl) ?_
  refine RunL.nil ?_
  refine Ends.then ?_
  refine RunC.cond rfl (fun h9 => ?_) (fun h9 => ?_)
  · have h9 := of_decide_eq_true h9
    refine RunC.seq ?_
    refine RunC.region ?_
    refine RunL.still rfl rfl rfl (Still.move rfl rfl) ?_
    refine RunL.still rfl rfl rfl (Still.lenV rfl rfl Tryz.underlying83 (su)) ?_
    refine RunL.still rfl rfl rfl (Still.move rfl rfl) ?_
    refine RunL.still rfl rfl rfl (Still.lenV rfl rfl Tryz.underlying83 (sv)) ?_
    refine RunL.still rfl rfl rfl (Still.sub rfl rfl rfl (fits64 (by omega) (by omega))) ?_
    refine RunL.still rfl rfl rfl (Still.assign rfl rfl) ?_
    refine RunL.nil ?_
    refine Ends.then ?_
    refine RunC.ret ?_
    refine Ends.then_ret ?_
    refine Ends.leave (.inl rfl) (fun _ _ ok => results1 Tryz.results48 (Holds.tmp rfl) ok) (fun w1 hs => ?_)
    exact Ret.intro () trivial (congrArg iv (by rw [cmpC, if_pos (fun k => h9 (by rw [k]))])) (HSub.nil _) hs
  · have h9 := of_decide_eq_false h9
    refine RunC.skip ?_
    refine Ends.then ?_
    refine RunC.seq ?_
    refine RunC.region ?_
    refine RunL.still rfl rfl rfl (Still.move rfl rfl) ?_
    refine RunL.still rfl rfl rfl (Still.move rfl rfl) ?_
    refine RunL.grows rfl rfl rfl (Grows.call (vs := #[_, _, _]) rfl rfl Tryz.call81 (fun w hs => z_CompareFunc u v xs ys w su sv hl hm (Cells.base0 cu hs) (Cells.base0 cv hs))) (fun _ _ => ?_)
    refine RunL.still rfl rfl rfl (Still.assign rfl rfl) ?_
    refine RunL.nil ?_
    refine Ends.then ?_
    refine RunC.ret ?_
    refine Ends.leave (.inl rfl) (fun _ _ ok => results1 Tryz.results48 (Holds.tmp rfl) ok) (fun w2 hs => ?_)
    exact Ret.intro () trivial (congrArg iv (by rw [cmpC, if_neg (by omega)])) (HSub.nil _) hs

end Go.Proofs
/- The standard numbering, as the program walks it. -/
namespace Go.Proofs
open Go Go.V
set_option maxRecDepth 20000
theorem mkI : MKey Tryz.prog 3 encI := MKey.int Tryz.underlying3

theorem z_meet (wb mc ma b : Nat) (ov : Value) (l : List Nat) (c : Nat) (w : World) (hs0 : Sym w (SK [HL.obj wb (.cells #[.map (some mc), .map (some ma), ov, ptrV b] 133 (0, 0)), HL.mp mc encI (enumM l), HL.own 3 1 ov l.length (ints (nI l))]) [HL.obj wb (.cells #[.map (some mc), .map (some ma), ov, ptrV b] 133 (0, 0)), HL.mp mc encI (enumM l), HL.own 3 1 ov l.length (ints (nI l))] w) (hlen : l.length ≤ 1000) : Gives Tryz.prog 78 #[ptrV wb, iv c] w (SK [HL.obj wb (.cells #[.map (some mc), .map (some ma), ov, ptrV b] 133 (0, 0)), HL.mp mc encI (enumM l), HL.own 3 1 ov l.length (ints (nI l))]) (fun _ : Value => True) (fun _ => .tuple #[]) (fun v => [HL.obj wb (.cells #[.map (some mc), .map (some ma), v, ptrV b] 133 (0, 0)), HL.mp mc encI (enumM (nbAdd l c)), HL.own 3 1 v (nbAdd l c).length (ints (nI (nbAdd l c)))]) := by
  refine fn_of_run (S := (SK [HL.obj wb (.cells #[.map (some mc), .map (some ma), ov, ptrV b] 133 (0, 0)), HL.mp mc encI (enumM l), HL.own 3 1 ov l.length (ints (nI l))])) (args := [ptrV wb, iv c]) (n := 37) (L := [HL.obj wb (.cells #[.map (some mc), .map (some ma), ov, ptrV b] 133 (0, 0)), HL.mp mc encI (enumM l), HL.own 3 1 ov l.length (ints (nI l))]) Tryz.func78 rfl Tryz.ntmps78 (Nat.le_of_ble_eq_true rfl) hs0 ?_
  change RunC _ _ _ [(0, _), (1, _)] _
  refine RunC.seq ?_
  refine RunC.region ?_
  refine RunL.still rfl rfl rfl (Still.move rfl rfl) ?_
  refine RunL.still rfl rfl rfl (Still.nilCheck rfl rfl) ?_
  refine RunL.still rfl rfl rfl (Still.fieldAddrL (off := 0) (off' := 0) rfl rfl Tryz.underlying131 rfl Tryz.sizeOf129 rfl) ?_
  refine RunL.still rfl rfl rfl (Still.load rfl rfl Tryz.isAgg129 (fun _ hs => cell_nth (hs.at (i := 0) rfl) rfl)) ?_
  refine RunL.still rfl rfl rfl (Still.move rfl rfl) ?_
  refine RunL.still rfl rfl rfl (Still.lookup2 (k := (c : Int)) rfl rfl rfl (i := 1) rfl Tryz.underlying129 mkI Tryz.zeroValue3 rfl (enumM_is c l)) ?_
  refine RunL.still rfl rfl rfl (Still.move rfl rfl) ?_
  refine RunL.still rfl rfl rfl (Still.extractN rfl rfl rfl) ?_
  refine RunL.still rfl rfl rfl (Still.extractN rfl rfl rfl) ?_
  refine RunL.still rfl rfl rfl (Still.assign rfl rfl) ?_
  refine RunL.still rfl rfl rfl (Still.assign rfl rfl) ?_
  refine RunL.nil ?_
  refine Ends.then ?_
  refine RunC.seq ?_
  refine RunC.region ?_
  refine RunL.still rfl rfl rfl (Still.move rfl rfl) ?_
  refine RunL.still rfl rfl rfl (Still.not rfl rfl) ?_
  refine RunL.nil ?_
  refine Ends.then ?_
  refine RunC.cond rfl (fun h16 => ?_) (fun h16 => ?_)
  · have h16 : c ∉ l := by simpa using h16
    refine RunC.seq ?_
    refine RunC.draw 10 (.still 0 (.still 1 (.still 2 (.still 3 (.still 4 (.still 5 (.still 6 (.still 7 (.still 8 (.still 9 .done)))))))))) (by kernel_rfl) (by kernel_rfl) ?_
    refine RunG.still rfl rfl rfl rfl (Still.move rfl rfl) ?_
    refine RunG.still rfl rfl rfl rfl (Still.nilCheck rfl rfl) ?_
    refine RunG.still rfl rfl rfl rfl (Still.fieldAddrL (off := 0) (off' := 0) rfl rfl Tryz.underlying131 rfl Tryz.sizeOf129 rfl) ?_
    refine RunG.still rfl rfl rfl rfl (Still.load rfl rfl Tryz.isAgg129 (fun _ hs => cell_nth (hs.at (i := 0) rfl) rfl)) ?_
    refine RunG.still rfl rfl rfl rfl (Still.move rfl rfl) ?_
    refine RunG.still rfl rfl rfl rfl (Still.move rfl rfl) ?_
    refine RunG.still rfl rfl rfl rfl (Still.nilCheck rfl rfl) ?_
    refine RunG.still rfl rfl rfl rfl (Still.fieldAddrL (off := 0) (off' := 2) rfl rfl Tryz.underlying131 rfl Tryz.sizeOf36 rfl) ?_
    refine RunG.still rfl rfl rfl rfl (Still.load rfl rfl Tryz.isAgg36 (fun _ hs => cell_nth (hs.at (i := 0) rfl) rfl)) ?_
    refine RunG.still rfl rfl rfl rfl (Still.lenOwn rfl rfl Tryz.underlying36 (fun _ hs => hs.own (i := 2) rfl)) ?_
    refine RunG.done ?_
    show RunL _ _ _ [_] _ _
    refine RunL.does0 rfl rfl (Does.mapUpdate (k := (c : Int)) rfl rfl rfl rfl (i := 1) rfl Tryz.underlying129 mkI) (fun _ _ => ?_)
    refine RunL.nil ?_
    refine Ends.then ?_
    refine RunC.region ?_
    refine RunL.still rfl rfl rfl (Still.move rfl rfl) ?_
    refine RunL.still rfl rfl rfl (Still.move rfl rfl) ?_
    refine RunL.still rfl rfl rfl (Still.nilCheck rfl rfl) ?_
    refine RunL.still rfl rfl rfl (Still.fieldAddrL (off := 0) (off' := 2) rfl rfl Tryz.underlying131 rfl Tryz.sizeOf36 rfl) ?_
    refine RunL.still rfl rfl rfl (Still.load rfl rfl Tryz.isAgg36 (fun _ hs => cell_nth (hs.at (i := 0) rfl) rfl)) ?_
    refine RunL.still rfl rfl rfl (Still.move rfl rfl) ?_
    refine RunL.grows rfl rfl rfl (Grows.slice1 rfl rfl Tryz.underlying36 Tryz.sizeOf3 rfl Tryz.zeroValue3 (by decide)) (fun b33 _ => ?_)
    refine RunL.does rfl rfl rfl (Does.appendTo (n' := (l.length + 1)) (xs' := (ints (nI (l ++ [c])))) (news := [_]) rfl rfl rfl rfl (i := 3) rfl Tryz.underlying36 (by kernel_rfl : (_ : Option _) = some (some (.int .i64 0), 1, 8)) rfl rfl (fun _ hs => cells_nth (hs.at (i := 0) rfl) ⟨rfl, trivial⟩) rfl rfl (by omega) (by omega) (rfl) ((nI_snoc l c))) (fun v34 hv34 => ?_)
    refine RunL.know (fun _ hs => own_oneCell (hs.own (i := 3) rfl)) (fun h1v => ?_)
    refine RunL.still rfl rfl rfl (Still.nilCheck rfl rfl) ?_
    refine RunL.still rfl rfl rfl (Still.fieldAddrL (off := 0) (off' := 2) rfl rfl Tryz.underlying131 rfl Tryz.sizeOf36 rfl) ?_
    refine RunL.does0 rfl rfl (Does.store1 rfl rfl rfl (i := 1) rfl Tryz.sizeOf36 (h1v) (rfl)) (fun _ _ => ?_)
    refine RunL.conv (fun _ hs => hs.re 1 rfl (show _ = HL.obj wb (.cells #[.map (some mc), .map (some ma), v34, ptrV b] 133 (0, 0)) from rfl)) ?_
    refine RunL.nil ?_
    rw [show nbAdd l c = l ++ [c] from if_neg h16]
    refine Ends.leave (.inr rfl) (fun _ _ ok => results0 Tryz.results78  ok) (fun w1 hs => ?_)
    refine Ret.intro v34 trivial rfl ?_ hs
    exact (HSub.pick 1 rfl (HSub.pick 1 (congrArg (fun z => some (HL.mp mc encI z)) (enumM_put h16)) (HSub.pick 1 (by rw [List.length_append]; rfl) (HSub.nil _))))
  · have h16 : c ∈ l := by simpa using h16
    refine RunC.skip ?_
    rw [show nbAdd l c = l from if_pos h16]
    refine Ends.leave (.inr rfl) (fun _ _ ok => results0 Tryz.results78  ok) (fun w2 hs => ?_)
    exact Ret.intro ov trivial rfl (HSub.pick 0 rfl (HSub.pick 0 rfl (HSub.pick 0 rfl (HSub.nil _)))) hs

theorem z_leaving {d : Dia} (hS : SoundP d) {c : Nat} (hc : c < d.cross.length) (k : Nat) (w : World) : Gives Tryz.prog 80 #[crV (crAt d c), iv k] w Nil (fun _ : Unit => True) (fun _ => iv (outN (crAt d c) k : Nat)) (fun _ => []) := by
  have hsg := hS.sgn hc
  have hoi := outI hS hc k
  refine fn_of_run (S := Nil) (args := [crV (crAt d c), iv k]) (n := 16) (L := []) Tryz.func80 rfl Tryz.ntmps80 (Nat.le_of_ble_eq_true rfl) (Sym.nil _ _) ?_
  change RunC _ _ _ [(0, _), (1, _)] _
  refine RunC.seq ?_
  refine RunC.region ?_
  refine RunL.grows rfl rfl rfl (Grows.box rfl rfl) (fun b2 _ => ?_)
  refine RunL.still rfl rfl rfl (Still.assign rfl rfl) ?_
  refine RunL.nil ?_
  refine Ends.then ?_
  refine RunC.seq ?_
  refine RunC.seq ?_
  refine RunC.region ?_
  refine RunL.still rfl rfl rfl (Still.move rfl rfl) ?_
  refine RunL.still rfl rfl rfl (Still.eql rfl rfl rfl) ?_
  refine RunL.nil ?_
  refine Ends.then ?_
  refine RunC.cond rfl (fun h6 => ?_) (fun h6 => ?_)
  · have h6 := of_decide_eq_true h6
    have h6 : k = 0 := by omega
    refine RunC.seq ?_
    refine RunC.region ?_
    refine RunL.still rfl rfl rfl (Still.fieldAddrL (off := 0) (off' := 0) rfl rfl Tryz.underlying62 rfl Tryz.sizeOf60 rfl) ?_
    refine RunL.still rfl rfl rfl (Still.indexArrEL 2 rfl rfl rfl Tryz.underlying60 Tryz.sizeOf3 (rfl) (by omega)) ?_
    refine RunL.still rfl rfl rfl (Still.load rfl rfl Tryz.isAgg3 (fun _ hs => cell_nth (hs.at (i := 0) rfl) rfl)) ?_
    refine RunL.still rfl rfl rfl (Still.assign rfl rfl) ?_
    refine RunL.nil ?_
    refine Ends.then ?_
    refine RunC.ret ?_
    refine Ends.then_ret ?_
    refine Ends.leave (.inl rfl) (fun _ _ ok => results1 Tryz.results80 (Holds.tmp rfl) ok) (fun w1 hs => ?_)
    exact Ret.intro () trivial (congrArg iv (by rw [hoi, if_pos h6])) (HSub.nil _) hs
  · have h6 := of_decide_eq_false h6
    obtain ⟨m, hm, hm4, hma⟩ : ∃ m : Nat, 2 - (crAt d c).s = (m : Int) ∧ m < 4 ∧ (crAt d c).arc m = (if (crAt d c).s = 1 then (crAt d c).a1 else (crAt d c).a3) := hsg.elim (fun e => ⟨1, by omega, by decide, by rw [if_pos e]; rfl⟩) (fun e => ⟨3, by omega, by decide, by rw [if_neg (by omega)]; rfl⟩)
    refine RunC.skip ?_
    refine Ends.then ?_
    refine RunC.seq ?_
    refine RunC.region ?_
    refine RunL.still rfl rfl rfl (Still.fieldAddrL (off := 0) (off' := 4) rfl rfl Tryz.underlying62 rfl Tryz.sizeOf3 rfl) ?_
    refine RunL.still rfl rfl rfl (Still.load rfl rfl Tryz.isAgg3 (fun _ hs => cell_nth (hs.at (i := 0) rfl) rfl)) ?_
    refine RunL.still rfl rfl rfl (Still.sub rfl rfl rfl (fits64 (by omega) (by omega))) ?_
    refine RunL.still rfl rfl rfl (Still.fieldAddrL (off := 0) (off' := 0) rfl rfl Tryz.underlying62 rfl Tryz.sizeOf60 rfl) ?_
    refine RunL.still rfl rfl rfl (Still.indexArrEL m rfl rfl rfl Tryz.underlying60 Tryz.sizeOf3 (hm) (by omega)) ?_
    refine RunL.still rfl rfl rfl (Still.load (v := iv ((crAt d c).arc m)) rfl rfl Tryz.isAgg3 (fun _ hs => cell_nth (hs.at (i := 0) rfl) (nth_arc hm4))) ?_
    refine RunL.still rfl rfl rfl (Still.assign rfl rfl) ?_
    refine RunL.nil ?_
    refine Ends.then ?_
    refine RunC.ret ?_
    refine Ends.leave (.inl rfl) (fun _ _ ok => results1 Tryz.results80 (Holds.tmp rfl) ok) (fun w2 hs => ?_)
    exact Ret.intro () trivial (congrArg iv (by rw [hoi, if_neg (by omega), hma])) (HSub.nil _) hs

theorem z_strand (b : Nat) (base : Option Addr) (A : Addr) (cap : Nat) (d : Dia) (av : Value) (hS : SoundP d) (wb mc ma : Nat) (ov : Value) (s0 : Nb) (a0 : Nat) (w w00 : World) (hg : DgAt w00 b base A cap d av) (hO : Old Nil w00 w) (hf : ∀ c, SK [HL.obj wb (.cells #[.map (some mc), .map (some ma), ov, ptrV b] 133 (0, 0)), HL.mp mc encI (enumM s0.2), HL.mp ma encI (enumM s0.1), HL.own 3 1 ov s0.2.length (ints (nI s0.2))] c → w00.heap.size ≤ c) (hs0 : Sym w (SK [HL.obj wb (.cells #[.map (some mc), .map (some ma), ov, ptrV b] 133 (0, 0)), HL.mp mc encI (enumM s0.2), HL.mp ma encI (enumM s0.1), HL.own 3 1 ov s0.2.length (ints (nI s0.2))]) [HL.obj wb (.cells #[.map (some mc), .map (some ma), ov, ptrV b] 133 (0, 0)), HL.mp mc encI (enumM s0.2), HL.mp ma encI (enumM s0.1), HL.own 3 1 ov s0.2.length (ints (nI s0.2))] w) (hk : NbOk d s0) (ha : a0 < 2 * d.cross.length) : Gives Tryz.prog 79 #[ptrV wb, iv a0] w (SK [HL.obj wb (.cells #[.map (some mc), .map (some ma), ov, ptrV b] 133 (0, 0)), HL.mp mc encI (enumM s0.2), HL.mp ma encI (enumM s0.1), HL.own 3 1 ov s0.2.length (ints (nI s0.2))]) (fun _ : Value => True) (fun _ => .tuple #[]) (fun v => [HL.obj wb (.cells #[.map (some mc), .map (some ma), v, ptrV b] 133 (0, 0)), HL.mp mc encI (enumM (nbW d s0 a0).2), HL.mp ma encI (enumM (nbW d s0 a0).1), HL.own 3 1 v (nbW d s0 a0).2.length (ints (nI (nbW d s0 a0).2))]) := by
  have h200 := hS.1
  refine fn_of_run (S := (SK [HL.obj wb (.cells #[.map (some mc), .map (some ma), ov, ptrV b] 133 (0, 0)), HL.mp mc encI (enumM s0.2), HL.mp ma encI (enumM s0.1), HL.own 3 1 ov s0.2.length (ints (nI s0.2))])) (args := [ptrV wb, iv a0]) (n := 53) (L := [HL.obj wb (.cells #[.map (some mc), .map (some ma), ov, ptrV b] 133 (0, 0)), HL.mp mc encI (enumM s0.2), HL.mp ma encI (enumM s0.1), HL.own 3 1 ov s0.2.length (ints (nI s0.2))]) Tryz.func79 rfl Tryz.ntmps79 (Nat.le_of_ble_eq_true rfl) hs0 ?_
  change RunC _ _ _ [(0, _), (1, _)] _
  refine RunC.seq ?_
  refine RunC.region ?_
  refine RunL.still rfl rfl rfl (Still.move rfl rfl) ?_
  refine RunL.still rfl rfl rfl (Still.assign rfl rfl) ?_
  refine RunL.nil ?_
  refine Ends.then ?_
  refine RunC.block ?_
  refine RunC.loop2 (γ := Value × Nb × Nat) (keep := [(0, _)]) (hkeep := []) (fun (v, s, a) => NbOk d s ∧ a < 2 * d.cross.length ∧ nbW d s a = nbW d s0 a0) (fun (v, s, a) => 2 * d.cross.length + 1 - s.1.length) (fun (v, s, a) => [(4, iv a)]) (fun (v, s, a) => [HL.obj wb (.cells #[.map (some mc), .map (some ma), v, ptrV b] 133 (0, 0)), HL.mp mc encI (enumM s.2), HL.mp ma encI (enumM s.1), HL.own 3 1 v s.2.length (ints (nI s.2))]) (ov, s0, a0) ⟨hk, ha, rfl⟩ (Fr.Sub.cons rfl (Fr.Sub.nil _)) (Fr.Sub.cons rfl (Fr.Sub.nil _)) (HSub.pick 0 rfl (HSub.pick 0 rfl (HSub.pick 0 rfl (HSub.pick 0 rfl (HSub.nil _))))) ?_
  rintro ⟨v, s, a⟩ ⟨hk, ha, hW⟩
  have hk : NbOk d s := hk
  have ha : a < 2 * d.cross.length := ha
  have hW : nbW d s a = nbW d s0 a0 := hW
  have hal := hk.alen
  refine RunC.seq ?_
  refine RunC.block ?_
  refine RunC.seq ?_
  refine RunC.seq ?_
  refine RunC.region ?_
  refine RunL.still rfl rfl rfl (Still.move rfl rfl) ?_
  refine RunL.still rfl rfl rfl (Still.nilCheck rfl rfl) ?_
  refine RunL.still rfl rfl rfl (Still.fieldAddrL (off := 0) (off' := 0) rfl rfl Tryz.underlying133 rfl Tryz.sizeOf131 rfl) ?_
  refine RunL.still rfl rfl rfl (Still.fieldAddrL (off := 0) (off' := 1) rfl rfl Tryz.underlying131 rfl Tryz.sizeOf129 rfl) ?_
  refine RunL.still rfl rfl rfl (Still.load rfl rfl Tryz.isAgg129 (fun _ hs => cell_nth (hs.at (i := 0) rfl) rfl)) ?_
  refine RunL.still rfl rfl rfl (Still.move rfl rfl) ?_
  refine RunL.still rfl rfl rfl (Still.lookup2 (k := (a : Int)) rfl rfl rfl (i := 2) rfl Tryz.underlying129 mkI Tryz.zeroValue3 rfl (enumM_is a s.1)) ?_
  refine RunL.still rfl rfl rfl (Still.move rfl rfl) ?_
  refine RunL.still rfl rfl rfl (Still.extractN rfl rfl rfl) ?_
  refine RunL.still rfl rfl rfl (Still.extractN rfl rfl rfl) ?_
  refine RunL.still rfl rfl rfl (Still.assign rfl rfl) ?_
  refine RunL.still rfl rfl rfl (Still.assign rfl rfl) ?_
  refine RunL.nil ?_
  refine Ends.then ?_
  refine RunC.seq ?_
  refine RunC.region ?_
  refine RunL.still rfl rfl rfl (Still.move rfl rfl) ?_
  refine RunL.nil ?_
  refine Ends.then ?_
  refine RunC.cond rfl (fun h24 => ?_) (fun h24 => ?_)
  · have h24 : a ∈ s.1 := by simpa using h24
    refine RunC.ret ?_
    refine Ends.then_ret ?_
    refine Ends.block_ret ?_
    refine Ends.then_ret ?_
    refine Ends.then_ret ?_
    refine Ends.block_ret ?_
    rw [← hW, nbW_in h24]
    refine Ends.leave (.inl rfl) (fun _ _ ok => results0 Tryz.results79  ok) (fun w1 hs => ?_)
    exact Ret.intro v trivial rfl (HSub.pick 0 rfl (HSub.pick 0 rfl (HSub.pick 0 rfl (HSub.pick 0 rfl (HSub.nil _))))) hs
  · have h24 : a ∉ s.1 := by simpa using h24
    refine RunC.skip ?_
    refine Ends.then ?_
    refine RunC.seq ?_
    refine RunC.draw 12 (.still 0 (.still 1 (.still 2 (.still 3 (.still 4 (.still 5 (.still 6 (.still 7 (.still 8 (.still 9 (.still 10 (.still 11 .done)))))))))))) (by kernel_rfl) (by kernel_rfl) ?_
    refine RunG.still rfl rfl rfl rfl (Still.move rfl rfl) ?_
    refine RunG.still rfl rfl rfl rfl (Still.nilCheck rfl rfl) ?_
    refine RunG.still rfl rfl rfl rfl (Still.fieldAddrL (off := 0) (off' := 0) rfl rfl Tryz.underlying133 rfl Tryz.sizeOf131 rfl) ?_
    refine RunG.still rfl rfl rfl rfl (Still.fieldAddrL (off := 0) (off' := 1) rfl rfl Tryz.underlying131 rfl Tryz.sizeOf129 rfl) ?_
    refine RunG.still rfl rfl rfl rfl (Still.load rfl rfl Tryz.isAgg129 (fun _ hs => cell_nth (hs.at (i := 0) rfl) rfl)) ?_
    refine RunG.still rfl rfl rfl rfl (Still.move rfl rfl) ?_
    refine RunG.still rfl rfl rfl rfl (Still.move rfl rfl) ?_
    refine RunG.still rfl rfl rfl rfl (Still.nilCheck rfl rfl) ?_
    refine RunG.still rfl rfl rfl rfl (Still.fieldAddrL (off := 0) (off' := 0) rfl rfl Tryz.underlying133 rfl Tryz.sizeOf131 rfl) ?_
    refine RunG.still rfl rfl rfl rfl (Still.fieldAddrL (off := 0) (off' := 1) rfl rfl Tryz.underlying131 rfl Tryz.sizeOf129 rfl) ?_
    refine RunG.still rfl rfl rfl rfl (Still.load rfl rfl Tryz.isAgg129 (fun _ hs => cell_nth (hs.at (i := 0) rfl) rfl)) ?_
    refine RunG.still rfl rfl rfl rfl (Still.lenMap rfl rfl (i := 2) rfl Tryz.underlying129) ?_
    refine RunG.again (t := 36) (u := iv (s.1.length : Int)) rfl (congrArg (fun n : Nat => iv (n : Int)) (enumF_len 0 s.1)) ?_
    refine RunG.done ?_
    show RunL _ _ _ [_] _ _
    refine RunL.does0 rfl rfl (Does.mapUpdate (k := (a : Int)) rfl rfl rfl rfl (i := 2) rfl Tryz.underlying129 mkI) (fun _ _ => ?_)
    refine RunL.nil ?_
    refine Ends.then ?_
    refine RunC.draw 15 (.still 0 (.still 1 (.still 2 (.still 3 (.still 4 (.still 5 (.still 6 (.still 7 (.still 8 (.still 9 (.still 10 (.still 11 (.still 12 (.still 13 (.still 14 .done))))))))))))))) (by kernel_rfl) (by kernel_rfl) ?_
    refine RunG.still rfl rfl rfl rfl (Still.move rfl rfl) ?_
    refine RunG.still rfl rfl rfl rfl (Still.nilCheck rfl rfl) ?_
    refine RunG.still rfl rfl rfl rfl (Still.fieldAddrL (off := 0) (off' := 0) rfl rfl Tryz.underlying133 rfl Tryz.sizeOf131 rfl) ?_
    refine RunG.still rfl rfl rfl rfl (Still.move rfl rfl) ?_
    refine RunG.still rfl rfl rfl rfl (Still.nilCheck rfl rfl) ?_
    refine RunG.still rfl rfl rfl rfl (Still.fieldAddrL (off := 0) (off' := 3) rfl rfl Tryz.underlying133 rfl Tryz.sizeOf56 rfl) ?_
    refine RunG.still rfl rfl rfl rfl (Still.load rfl rfl Tryz.isAgg56 (fun _ hs => cell_nth (hs.at (i := 0) rfl) rfl)) ?_
    refine RunG.still rfl rfl rfl rfl (Still.nilCheck rfl rfl) ?_
    refine RunG.still rfl rfl rfl rfl (Still.fieldAddrA (off := 2) rfl rfl Tryz.underlying89 rfl Tryz.sizeOf87 rfl) ?_
    refine RunG.still rfl rfl rfl rfl (Still.load (v := av) rfl rfl Tryz.isAgg87 (fun _ hs => (hg.outer hO hf hs).c2)) ?_
    refine RunG.still rfl rfl rfl rfl (Still.move rfl rfl) ?_
    refine RunG.still rfl rfl rfl rfl (Still.indexV _ rfl rfl rfl Tryz.underlying87 Tryz.sizeOf112 (hg.sh) (rfl) (by omega)) ?_
    refine RunG.still rfl rfl rfl rfl (Still.fieldAddrA (off := 2) rfl rfl Tryz.underlying112 rfl Tryz.sizeOf110 rfl) ?_
    refine RunG.still rfl rfl rfl rfl (Still.fieldAddrA (off := 0) rfl rfl Tryz.underlying110 rfl Tryz.sizeOf3 rfl) ?_
    refine RunG.still rfl rfl rfl rfl (Still.load rfl rfl Tryz.isAgg3 (fun _ hs => cells_at3 ((hg.outer hO hf hs).arcs) (ends_inN hS ha))) ?_
    refine RunG.done ?_
    show RunL _ _ _ [_] _ _
    refine RunL.does rfl rfl rfl (Does.call (vs := #[_, _]) (K := [_, _, _]) (R := [_]) (S' := _) rfl rfl Tryz.call78 (HSub.pick 0 rfl (HSub.pick 0 rfl (HSub.pick 1 rfl (HSub.pick 0 rfl (HSub.nil _))))) (fun c h => h) (fun w hs => z_meet wb mc ma b v s.2 (endX d a) w hs.left.hand (by have := hk.clen; omega))) (fun v52 _ => ?_)
    refine RunL.nil ?_
    refine Ends.block ?_
    refine Ends.then ?_
    refine RunC.region ?_
    refine RunL.still rfl rfl rfl (Still.move rfl rfl) ?_
    refine RunL.still rfl rfl rfl (Still.nilCheck rfl rfl) ?_
    refine RunL.still rfl rfl rfl (Still.fieldAddrL (off := 0) (off' := 3) rfl rfl Tryz.underlying133 rfl Tryz.sizeOf56 rfl) ?_
    refine RunL.still rfl rfl rfl (Still.load rfl rfl Tryz.isAgg56 (fun _ hs => cell_nth (hs.at (i := 0) rfl) rfl)) ?_
    refine RunL.still rfl rfl rfl (Still.move rfl rfl) ?_
    refine RunL.grows rfl rfl rfl (Grows.call (vs := #[_, _]) rfl rfl Tryz.call94 (fun w hs => dg_next b base A cap d av a w (hg.outer hO hf hs) hS ha)) (fun _ _ => ?_)
    refine RunL.still rfl rfl rfl (Still.assign rfl rfl) ?_
    refine RunL.nil ?_
    refine Ends.again (v52, (s.1 ++ [a], nbAdd s.2 (endX d a)), nextN d a) ?_ ?_ (Fr.Sub.app ?_ ?_) ?_
    · exact ⟨hk.step hS ha h24, hS.next_lt a ha, (nbW_out hk h24).symm.trans hW⟩
    · show _ - (s.1 ++ [a]).length < _ - s.1.length; rw [List.length_append, List.length_singleton]; omega
    · exact Fr.Sub.cons rfl (Fr.Sub.nil _)
    · exact Fr.Sub.cons rfl (Fr.Sub.nil _)
    · exact HSub.pick 0 rfl (HSub.pick 0 rfl (HSub.pick 1 (congrArg (fun z => some (HL.mp ma encI z)) (enumM_put h24)) (HSub.pick 0 rfl (HSub.nil _))))

end Go.Proofs
/- The code of a piece from a crossing, as the program makes it. -/
namespace Go.Proofs
open Go Go.V
set_option maxRecDepth 20000
theorem z_code (b : Nat) (base : Option Addr) (A : Addr) (cap : Nat) (d : Dia) (av : Value) (c way : Nat) (w : World) (hg : DgAt w b base A cap d av) (hs0 : SoundP d) (hc : c < d.cross.length) : Gives Tryz.prog 47 #[ptrV b, iv c, iv way] w Nil (fun _ : Value => True) (fun v => v) (fun v => [HL.own 91 5 v (codeOf d c way).length ((codeOf d c way).flatMap encCr)]) := by
  have h200 := hs0.1
  have hsg := hs0.sgn hc
  refine fn_of_run (S := Nil) (args := [ptrV b, iv c, iv way]) (n := 116) (L := []) Tryz.func47 rfl Tryz.ntmps47 (Nat.le_of_ble_eq_true rfl) (Sym.nil _ _) ?_
  change RunC _ _ _ [(0, _), (1, _), (2, _)] _
  refine RunC.seq ?_
  refine RunC.region ?_
  refine RunL.still rfl rfl rfl (Still.assign rfl rfl) ?_
  refine RunL.nil ?_
  refine Ends.then ?_
  refine RunC.seq ?_
  refine RunC.region ?_
  refine RunL.grows rfl rfl rfl (Grows.makeMapK encI rfl) (fun b17 _ => ?_)
  refine RunL.grows rfl rfl rfl (Grows.makeMapK encI rfl) (fun b18 _ => ?_)
  refine RunL.still rfl rfl rfl (Still.build_1_1_1 (fun x0_0 x1_0 x2_0 => .agg #[x0_0, x1_0, x2_0]) rfl rfl rfl rfl (fun _ => by kernel_rfl)) ?_
  refine RunL.still rfl rfl rfl (Still.move rfl rfl) ?_
  refine RunL.still rfl rfl rfl (Still.build_3_1 (fun x0_0 x0_1 x0_2 x1_0 => .agg #[x0_0, x0_1, x0_2, x1_0]) rfl rfl rfl (fun _ => by kernel_rfl)) ?_
  refine RunL.grows rfl rfl rfl (Grows.box rfl rfl) (fun b22 _ => ?_)
  refine RunL.still rfl rfl rfl (Still.assign rfl rfl) ?_
  refine RunL.nil ?_
  refine Ends.then ?_
  refine RunC.seq ?_
  refine RunC.own_nil 3 1 ?_
  refine RunC.region ?_
  refine RunL.still rfl rfl rfl (Still.move rfl rfl) ?_
  refine RunL.still rfl rfl rfl (Still.nilCheck rfl rfl) ?_
  refine RunL.still rfl rfl rfl (Still.fieldAddrL (off := 0) (off' := 0) rfl rfl Tryz.underlying133 rfl Tryz.sizeOf131 rfl) ?_
  refine RunL.still rfl rfl rfl (Still.move rfl rfl) ?_
  refine RunL.does rfl rfl rfl (Does.call (vs := #[_, _]) (K := [_, _, _]) (R := [_]) (S' := _) rfl rfl Tryz.call78 (HSub.pick 1 rfl (HSub.pick 2 rfl (HSub.pick 0 rfl (HSub.pick 0 rfl (HSub.nil _))))) (fun c h => h) (fun w hs => z_meet b22 b17 b18 b (.slice none 0 0) [] c w hs.left.hand (Nat.zero_le _))) (fun v27 _ => ?_)
  refine RunL.nil ?_
  refine Ends.then ?_
  refine RunC.seq ?_
  refine RunC.region ?_
  refine RunL.still rfl rfl rfl (Still.move rfl rfl) ?_
  refine RunL.still rfl rfl rfl (Still.move rfl rfl) ?_
  refine RunL.still rfl rfl rfl (Still.nilCheck rfl rfl) ?_
  refine RunL.still rfl rfl rfl (Still.fieldAddrA (off := 0) rfl rfl Tryz.underlying89 rfl Tryz.sizeOf24 rfl) ?_
  refine RunL.still rfl rfl rfl (Still.fieldAddrA (off := 0) rfl rfl Tryz.underlying24 rfl Tryz.sizeOf22 rfl) ?_
  refine RunL.still rfl rfl rfl (Still.load (v := .slice base d.cross.length cap) rfl rfl Tryz.isAgg22 (fun _ hs => hs.base0 hg.c0)) ?_
  refine RunL.still rfl rfl rfl (Still.move rfl rfl) ?_
  refine RunL.still rfl rfl rfl (Still.indexSliceN rfl rfl rfl Tryz.underlying22 Tryz.sizeOf62 (hg.dia.base (by omega)) (by omega)) ?_
  refine RunL.still rfl rfl rfl (Still.loads rfl rfl Tryz.isAgg62 Tryz.sizeOf62 (vs := encCr (crAt d c)) rfl (fun _ hs => Cells.base0 (hg.dia.cross (crAt_get hc)) hs)) ?_
  refine RunL.still rfl rfl rfl (Still.move rfl rfl) ?_
  refine RunL.grows rfl rfl rfl (Grows.call (vs := #[_, _]) rfl rfl Tryz.call80 (fun w hs => z_leaving hs0 hc way w)) (fun _ _ => ?_)
  refine RunL.does rfl rfl rfl (Does.call (vs := #[_, _]) (K := [_, _, _, _]) (R := []) (S' := _) rfl rfl Tryz.call79 (HSub.pick 0 rfl (HSub.pick 0 rfl (HSub.pick 1 rfl (HSub.pick 0 rfl (HSub.nil _))))) (fun c h => h) (fun w hs => z_strand b base A cap d av hs0 b22 b17 b18 v27 ([], nbAdd [] c) (outN (crAt d c) way) w _ hg hs.old hs.left.fresh hs.left.hand (by rw [nbAdd_nil]; exact nb_one hc) (outN_lt hs0 hc way))) (fun v39 _ => ?_)
  refine RunL.nil ?_
  refine Ends.then ?_
  refine RunC.seq ?_
  refine RunC.seq ?_
  refine RunC.region ?_
  refine RunL.still rfl rfl rfl (Still.assign rfl rfl) ?_
  refine RunL.nil ?_
  refine Ends.then ?_
  refine RunC.block ?_
  refine RunC.loop2 (γ := Value × Nb × Nat) (keep := [(0, _), (7, _)]) (hkeep := []) (fun (v, s, i) => NbOk d s ∧ nbG d i s = (stdN d c way)) (fun (v, s, i) => d.cross.length - i) (fun (v, s, i) => [(8, iv i)]) (fun (v, s, i) => [HL.obj b22 (.cells #[.map (some b17), .map (some b18), v, ptrV b] 133 (0, 0)), HL.mp b17 encI (enumM s.2), HL.mp b18 encI (enumM s.1), HL.own 3 1 v s.2.length (ints (nI s.2))]) (v39, nbW d ([], nbAdd [] c) (outN (crAt d c) way), 0) ⟨by rw [nbAdd_nil]; exact nbW_ok hs0 (nb_one hc) (outN_lt hs0 hc way), by rw [nbAdd_nil]; rfl⟩ (Fr.Sub.cons rfl (Fr.Sub.nil _)) (Fr.Sub.cons rfl (Fr.Sub.cons rfl (Fr.Sub.nil _))) (HSub.pick 0 rfl (HSub.pick 0 rfl (HSub.pick 0 rfl (HSub.pick 0 rfl (HSub.nil _))))) ?_
  rintro ⟨v, s, i⟩ ⟨hk, hG⟩
  have hk : NbOk d s := hk
  have hG : nbG d i s = (stdN d c way) := hG
  have hcl := hk.clen
  refine RunC.seq ?_
  refine RunC.seq ?_
  refine RunC.region ?_
  refine RunL.still rfl rfl rfl (Still.move rfl rfl) ?_
  refine RunL.still rfl rfl rfl (Still.move rfl rfl) ?_
  refine RunL.still rfl rfl rfl (Still.nilCheck rfl rfl) ?_
  refine RunL.still rfl rfl rfl (Still.fieldAddrL (off := 0) (off' := 0) rfl rfl Tryz.underlying133 rfl Tryz.sizeOf131 rfl) ?_
  refine RunL.still rfl rfl rfl (Still.fieldAddrL (off := 0) (off' := 2) rfl rfl Tryz.underlying131 rfl Tryz.sizeOf36 rfl) ?_
  refine RunL.still rfl rfl rfl (Still.load rfl rfl Tryz.isAgg36 (fun _ hs => cell_nth (hs.at (i := 0) rfl) rfl)) ?_
  refine RunL.still rfl rfl rfl (Still.lenOwn rfl rfl Tryz.underlying36 (fun _ hs => hs.own (i := 3) rfl)) ?_
  refine RunL.still rfl rfl rfl (Still.lss rfl rfl rfl) ?_
  refine RunL.nil ?_
  refine Ends.then ?_
  refine RunC.cond rfl (fun h47 => ?_) (fun h47 => ?_)
  · have h47 := of_decide_eq_true h47
    obtain ⟨ci, hci2⟩ := get_of_lt (l := s.2) (i := i) (by omega)
    have hci := hk.cl ci (List.mem_of_getElem? hci2)
    refine RunC.skip ?_
    refine Ends.then ?_
    refine RunC.seq ?_
    refine RunC.block ?_
    refine RunC.seq ?_
    refine RunC.region ?_
    refine RunL.still rfl rfl rfl (Still.move rfl rfl) ?_
    refine RunL.nil ?_
    refine Ends.then ?_
    refine RunC.block ?_
    refine RunC.loop2 (γ := Value × Nat) (keep := [(0, _), (7, _), (8, _)]) (hkeep := []) (fun (u, k) => k ≤ 2) (fun (u, k) => 2 - k) (fun (u, k) => [(50, iv k)]) (fun (u, k) => [HL.obj b22 (.cells #[.map (some b17), .map (some b18), u, ptrV b] 133 (0, 0)), HL.mp b17 encI (enumM (nbTo d s ci k).2), HL.mp b18 encI (enumM (nbTo d s ci k).1), HL.own 3 1 u (nbTo d s ci k).2.length (ints (nI (nbTo d s ci k).2))]) (v, 0) (Nat.zero_le _) (Fr.Sub.cons rfl (Fr.Sub.nil _)) (Fr.Sub.cons rfl (Fr.Sub.cons rfl (Fr.Sub.cons rfl (Fr.Sub.nil _)))) (HSub.pick 0 rfl (HSub.pick 0 rfl (HSub.pick 0 rfl (HSub.pick 0 rfl (HSub.nil _))))) ?_
    rintro ⟨u, k⟩ hk2
    have hk2 : k ≤ 2 := hk2
    refine RunC.seq ?_
    refine RunC.region ?_
    refine RunL.still rfl rfl rfl (Still.lss rfl rfl rfl) ?_
    refine RunL.nil ?_
    refine Ends.then ?_
    refine RunC.seq ?_
    refine RunC.cond rfl (fun h51 => ?_) (fun h51 => ?_)
    · have h51 := of_decide_eq_true h51
      have h51n : k < 2 := by omega
      refine RunC.skip ?_
      refine Ends.then ?_
      refine RunC.seq ?_
      refine RunC.block ?_
      refine RunC.seq ?_
      refine RunC.region ?_
      refine RunL.still rfl rfl rfl (Still.move rfl rfl) ?_
      refine RunL.still rfl rfl rfl (Still.assign rfl rfl) ?_
      refine RunL.nil ?_
      refine Ends.then ?_
      refine RunC.draw 18 (.still 0 (.still 1 (.still 2 (.still 3 (.still 4 (.still 5 (.still 6 (.still 7 (.still 8 (.still 9 (.still 10 (.still 11 (.still 12 (.still 13 (.still 14 (.still 15 (.still 16 (.one 17 .done)))))))))))))))))) (by kernel_rfl) (by kernel_rfl) ?_
      refine RunG.still rfl rfl rfl rfl (Still.move rfl rfl) ?_
      refine RunG.still rfl rfl rfl rfl (Still.move rfl rfl) ?_
      refine RunG.still rfl rfl rfl rfl (Still.nilCheck rfl rfl) ?_
      refine RunG.still rfl rfl rfl rfl (Still.fieldAddrA (off := 0) rfl rfl Tryz.underlying89 rfl Tryz.sizeOf24 rfl) ?_
      refine RunG.still rfl rfl rfl rfl (Still.fieldAddrA (off := 0) rfl rfl Tryz.underlying24 rfl Tryz.sizeOf22 rfl) ?_
      refine RunG.still rfl rfl rfl rfl (Still.load (v := .slice base d.cross.length cap) rfl rfl Tryz.isAgg22 (fun _ hs => hs.base0 hg.c0)) ?_
      refine RunG.still rfl rfl rfl rfl (Still.move rfl rfl) ?_
      refine RunG.still rfl rfl rfl rfl (Still.nilCheck rfl rfl) ?_
      refine RunG.still rfl rfl rfl rfl (Still.fieldAddrL (off := 0) (off' := 0) rfl rfl Tryz.underlying133 rfl Tryz.sizeOf131 rfl) ?_
      refine RunG.still rfl rfl rfl rfl (Still.fieldAddrL (off := 0) (off' := 2) rfl rfl Tryz.underlying131 rfl Tryz.sizeOf36 rfl) ?_
      refine RunG.still rfl rfl rfl rfl (Still.load rfl rfl Tryz.isAgg36 (fun _ hs => cell_nth (hs.at (i := 0) rfl) rfl)) ?_
      refine RunG.still rfl rfl rfl rfl (Still.move rfl rfl) ?_
      refine RunG.still rfl rfl rfl rfl (Still.indexOwn rfl rfl rfl Tryz.underlying36 Tryz.sizeOf3 (fun _ hs => hs.own (i := 3) rfl) (by have := (List.getElem?_eq_some_iff.1 (nbTo_at hs0 hk hci hci2 k)).1; omega)) ?_
      refine RunG.still rfl rfl rfl rfl (Still.load rfl rfl Tryz.isAgg3 (fun w hs => own_at (hs.own (i := 3) rfl) (ints_get (nI_get (nbTo_at hs0 hk hci hci2 k))))) ?_
      refine RunG.still rfl rfl rfl rfl (Still.indexSliceN rfl rfl rfl Tryz.underlying22 Tryz.sizeOf62 (hg.dia.base (by omega)) (by omega)) ?_
      refine RunG.still rfl rfl rfl rfl (Still.loads rfl rfl Tryz.isAgg62 Tryz.sizeOf62 (vs := encCr (crAt d ci)) rfl (fun _ hs => Cells.base0 (hg.dia.cross (crAt_get hci)) hs)) ?_
      refine RunG.still rfl rfl rfl rfl (Still.move rfl rfl) ?_
      refine RunG.grows rfl rfl rfl rfl (Grows.call (vs := #[_, _]) rfl rfl Tryz.call80 (fun w hs => z_leaving hs0 hci k w)) (fun _ _ => ?_)
      refine RunG.done ?_
      show RunL _ _ _ [_] _ _
      refine RunL.does rfl rfl rfl (Does.call (vs := #[_, _]) (K := [_, _, _, _]) (R := []) (S' := _) rfl rfl Tryz.call79 (HSub.pick 0 rfl (HSub.pick 0 rfl (HSub.pick 0 rfl (HSub.pick 0 rfl (HSub.nil _))))) (fun c h => h) (fun w hs => z_strand b base A cap d av hs0 b22 b17 b18 u (nbTo d s ci k) (outN (crAt d ci) k) w _ hg hs.old hs.left.fresh hs.left.hand (nbTo_ok hs0 hk hci k) (outN_lt hs0 hci k))) (fun v71 _ => ?_)
      refine RunL.nil ?_
      refine Ends.block ?_
      refine Ends.then ?_
      refine RunC.region ?_
      refine RunL.still rfl rfl rfl (Still.add rfl rfl rfl (fits64 (by omega) (by omega))) ?_
      refine RunL.still rfl rfl rfl (Still.move rfl rfl) ?_
      refine RunL.nil ?_
      refine Ends.again (v71, k + 1) ?_ ?_ (Fr.Sub.app ?_ ?_) ?_
      · show k + 1 ≤ 2; omega
      · show 2 - (k + 1) < 2 - k; omega
      · exact Fr.Sub.cons rfl (Fr.Sub.nil _)
      · exact Fr.Sub.cons rfl (Fr.Sub.cons rfl (Fr.Sub.cons rfl (Fr.Sub.nil _)))
      · exact HSub.pick 0 rfl (HSub.pick 0 (by rw [nbTo_step h51n]; rfl) (HSub.pick 0 (by rw [nbTo_step h51n]; rfl) (HSub.pick 0 (by rw [nbTo_step h51n]; rfl) (HSub.nil _))))
    · have h51 := of_decide_eq_false h51
      obtain rfl : k = 2 := by omega
      refine RunC.exit ?_
      refine Ends.then_exit ?_
      refine Ends.then_exit ?_
      refine Ends.block_exit ?_
      refine Ends.block ?_
      refine Ends.then ?_
      refine RunC.region ?_
      refine RunL.still rfl rfl rfl (Still.move rfl rfl) ?_
      refine RunL.still rfl rfl rfl (Still.add rfl rfl rfl (fits64 (by omega) (by omega))) ?_
      refine RunL.still rfl rfl rfl (Still.assign rfl rfl) ?_
      refine RunL.nil ?_
      refine Ends.again (u, nbRow d s ci, i + 1) ?_ ?_ (Fr.Sub.app ?_ ?_) ?_
      · exact ⟨nbRow_ok hs0 hk hci, (nbG_next hk hci2).symm.trans hG⟩
      · show _ - (i + 1) < _ - i; omega
      · exact Fr.Sub.cons rfl (Fr.Sub.nil _)
      · exact Fr.Sub.cons rfl (Fr.Sub.cons rfl (Fr.Sub.nil _))
      · exact HSub.pick 0 rfl (HSub.pick 0 rfl (HSub.pick 0 rfl (HSub.pick 0 rfl (HSub.nil _))))
  · have h47 := of_decide_eq_false h47
    have hS : s = stdN d c way := by rw [← hG, nbG_end (by omega)]
    refine RunC.exit ?_
    refine Ends.then_exit ?_
    refine Ends.then_exit ?_
    refine Ends.block_exit ?_
    refine Ends.then ?_
    refine RunC.seq ?_
    refine RunC.region ?_
    refine RunL.still rfl rfl rfl (Still.assign rfl rfl) ?_
    refine RunL.own_nil 91 5 ?_
    refine RunL.nil ?_
    refine Ends.then ?_
    refine RunC.seq ?_
    refine RunC.seq ?_
    refine RunC.region ?_
    refine RunL.still rfl rfl rfl (Still.move rfl rfl) ?_
    refine RunL.still rfl rfl rfl (Still.nilCheck rfl rfl) ?_
    refine RunL.still rfl rfl rfl (Still.fieldAddrL (off := 0) (off' := 0) rfl rfl Tryz.underlying133 rfl Tryz.sizeOf131 rfl) ?_
    refine RunL.still rfl rfl rfl (Still.fieldAddrL (off := 0) (off' := 2) rfl rfl Tryz.underlying131 rfl Tryz.sizeOf36 rfl) ?_
    refine RunL.still rfl rfl rfl (Still.load rfl rfl Tryz.isAgg36 (fun _ hs => cell_nth (hs.at (i := 1) rfl) rfl)) ?_
    refine RunL.still rfl rfl rfl (Still.lenOwn rfl rfl Tryz.underlying36 (fun _ hs => hs.own (i := 4) rfl)) ?_
    refine RunL.still rfl rfl rfl (Still.move rfl rfl) ?_
    refine RunL.nil ?_
    refine Ends.then ?_
    refine RunC.block ?_
    refine RunC.loop2 (γ := Value × Nat) (keep := [(0, _), (7, _), (77, _), (78, _)]) (hkeep := [_, _, _, _]) (fun (x, j) => j ≤ s.2.length) (fun (x, j) => s.2.length - j) (fun (x, j) => [(10, x), (79, iv j)]) (fun (x, j) => [HL.own 91 5 x j ((rowsTo d s j).flatMap encCr)]) (.slice none 0 0, 0) (Nat.zero_le _) (Fr.Sub.cons rfl (Fr.Sub.cons rfl (Fr.Sub.nil _))) (Fr.Sub.cons rfl (Fr.Sub.cons rfl (Fr.Sub.cons rfl (Fr.Sub.cons rfl (Fr.Sub.nil _))))) (HSub.pick 0 rfl (HSub.pick 0 rfl (HSub.pick 0 rfl (HSub.pick 0 rfl (HSub.pick 0 rfl (HSub.nil _)))))) ?_
    rintro ⟨x, j⟩ hj
    have hj : j ≤ s.2.length := hj
    refine RunC.seq ?_
    refine RunC.region ?_
    refine RunL.still rfl rfl rfl (Still.lss rfl rfl rfl) ?_
    refine RunL.nil ?_
    refine Ends.then ?_
    refine RunC.seq ?_
    refine RunC.cond rfl (fun h80 => ?_) (fun h80 => ?_)
    · have h80 := of_decide_eq_true h80
      obtain ⟨kk, hkk2⟩ := get_of_lt (l := s.2) (i := j) (by omega)
      have hkk := hk.cl kk (List.mem_of_getElem? hkk2)
      refine RunC.skip ?_
      refine Ends.then ?_
      refine RunC.seq ?_
      refine RunC.block ?_
      refine RunC.seq ?_
      refine RunC.region ?_
      refine RunL.still rfl rfl rfl (Still.indexOwn rfl rfl rfl Tryz.underlying36 Tryz.sizeOf3 (fun _ hs => hs.own (i := 4) rfl) (by omega)) ?_
      refine RunL.still rfl rfl rfl (Still.load rfl rfl Tryz.isAgg3 (fun w hs => own_at (hs.own (i := 4) rfl) (ints_get (nI_get hkk2)))) ?_
      refine RunL.still rfl rfl rfl (Still.assign rfl rfl) ?_
      refine RunL.nil ?_
      refine Ends.then ?_
      refine RunC.seq ?_
      refine RunC.region ?_
      refine RunL.still rfl rfl rfl (Still.move rfl rfl) ?_
      refine RunL.still rfl rfl rfl (Still.nilCheck rfl rfl) ?_
      refine RunL.still rfl rfl rfl (Still.fieldAddrA (off := 0) rfl rfl Tryz.underlying89 rfl Tryz.sizeOf24 rfl) ?_
      refine RunL.still rfl rfl rfl (Still.fieldAddrA (off := 0) rfl rfl Tryz.underlying24 rfl Tryz.sizeOf22 rfl) ?_
      refine RunL.still rfl rfl rfl (Still.load (v := .slice base d.cross.length cap) rfl rfl Tryz.isAgg22 (fun _ hs => hs.base0 hg.c0)) ?_
      refine RunL.still rfl rfl rfl (Still.move rfl rfl) ?_
      refine RunL.still rfl rfl rfl (Still.indexSliceN rfl rfl rfl Tryz.underlying22 Tryz.sizeOf62 (hg.dia.base (by omega)) (by omega)) ?_
      refine RunL.still rfl rfl rfl (Still.loads rfl rfl Tryz.isAgg62 Tryz.sizeOf62 (vs := encCr (crAt d kk)) rfl (fun _ hs => Cells.base0 (hg.dia.cross (crAt_get hkk)) hs)) ?_
      refine RunL.grows rfl rfl rfl (Grows.alloc rfl Tryz.zeroValue62) (fun b13 _ => ?_)
      refine RunL.does0 rfl rfl (Does.store rfl rfl rfl (i := 0) rfl Tryz.sizeOf62 rfl (rfl) rfl) (fun _ _ => ?_)
      refine RunL.conv (fun _ hs => hs.re 0 rfl (show _ = HL.obj b13 (.cells #[iv (crAt d kk).a0, iv (crAt d kk).a1, iv (crAt d kk).a2, iv (crAt d kk).a3, iv (crAt d kk).s] 62 (0, 0)) from rfl)) ?_
      refine RunL.nil ?_
      refine Ends.then ?_
      refine RunC.seq ?_
      refine RunC.region ?_
      refine RunL.grows rfl rfl rfl (Grows.alloc rfl Tryz.zeroValue91) (fun b14 _ => ?_)
      refine RunL.nil ?_
      refine Ends.then ?_
      refine RunC.seq ?_
      refine RunC.seq ?_
      refine RunC.region ?_
      refine RunL.still rfl rfl rfl (Still.fieldAddrL (off := 0) (off' := 0) rfl rfl Tryz.underlying62 rfl Tryz.sizeOf60 rfl) ?_
      refine RunL.still rfl rfl rfl (Still.loads rfl rfl Tryz.isAgg60 Tryz.sizeOf60 (vs := [_, _, _, _]) rfl (fun _ hs => cells_nth (hs.at (i := 1) rfl) ⟨rfl, ⟨rfl, ⟨rfl, ⟨rfl, trivial⟩⟩⟩⟩)) ?_
      refine RunL.still rfl rfl rfl (Still.move rfl rfl) ?_
      refine RunL.nil ?_
      refine Ends.then ?_
      refine RunC.block ?_
      refine RunC.loop2 (γ := Nat) (keep := [(0, _), (7, _), (10, _), (13, _), (14, _), (77, _), (78, _), (79, _), (92, _)]) (hkeep := [_, _, _, _, _, _]) (fun p => p ≤ 4) (fun p => 4 - p) (fun p => [(93, iv p)]) (fun p => [HL.obj b14 (.cells (rowTo s.1 (crAt d kk) p) 91 (0, 0))]) 0 (Nat.zero_le _) (Fr.Sub.cons rfl (Fr.Sub.nil _)) (Fr.Sub.cons rfl (Fr.Sub.cons rfl (Fr.Sub.cons rfl (Fr.Sub.cons rfl (Fr.Sub.cons rfl (Fr.Sub.cons rfl (Fr.Sub.cons rfl (Fr.Sub.cons rfl (Fr.Sub.cons rfl (Fr.Sub.nil _)))))))))) (HSub.pick 0 rfl (HSub.pick 0 rfl (HSub.pick 0 rfl (HSub.pick 0 rfl (HSub.pick 0 rfl (HSub.pick 0 rfl (HSub.pick 0 rfl (HSub.nil _)))))))) ?_
      rintro p hp
      refine RunC.seq ?_
      refine RunC.region ?_
      refine RunL.still rfl rfl rfl (Still.lss rfl rfl rfl) ?_
      refine RunL.nil ?_
      refine Ends.then ?_
      refine RunC.seq ?_
      refine RunC.cond rfl (fun h94 => ?_) (fun h94 => ?_)
      · have h94 := of_decide_eq_true h94
        have hp4 : p < 4 := by omega
        have hpa := hs0.arc hkk hp4
        refine RunC.skip ?_
        refine Ends.then ?_
        refine RunC.seq ?_
        refine RunC.block ?_
        refine RunC.seq ?_
        refine RunC.region ?_
        refine RunL.still rfl rfl rfl (Still.move rfl rfl) ?_
        refine RunL.still rfl rfl rfl (Still.index rfl rfl rfl Tryz.underlying60 Tryz.sizeOf3 Tryz.isAgg3 ⟨by omega, by omega⟩ (row_at _ hp4)) ?_
        refine RunL.again (t := 96) (u := iv ((((crAt d kk).arc p).toNat : Nat) : Int)) rfl (congrArg iv (Int.toNat_of_nonneg hpa.1).symm) ?_
        refine RunL.still rfl rfl rfl (Still.assign rfl rfl) ?_
        refine RunL.still rfl rfl rfl (Still.assign rfl rfl) ?_
        refine RunL.nil ?_
        refine Ends.then ?_
        refine RunC.region ?_
        refine RunL.still rfl rfl rfl (Still.move rfl rfl) ?_
        refine RunL.still rfl rfl rfl (Still.move rfl rfl) ?_
        refine RunL.still rfl rfl rfl (Still.nilCheck rfl rfl) ?_
        refine RunL.still rfl rfl rfl (Still.fieldAddrL (off := 0) (off' := 0) rfl rfl Tryz.underlying133 rfl Tryz.sizeOf131 rfl) ?_
        refine RunL.still rfl rfl rfl (Still.fieldAddrL (off := 0) (off' := 1) rfl rfl Tryz.underlying131 rfl Tryz.sizeOf129 rfl) ?_
        refine RunL.still rfl rfl rfl (Still.load rfl rfl Tryz.isAgg129 (fun _ hs => cell_nth (hs.at (i := 3) rfl) rfl)) ?_
        refine RunL.still rfl rfl rfl (Still.move rfl rfl) ?_
        refine RunL.still rfl rfl rfl (Still.lookup1 (k := ((((crAt d kk).arc p).toNat : Nat) : Int)) rfl rfl rfl (i := 5) rfl Tryz.underlying129 mkI Tryz.zeroValue3 (enumM_pos _ _)) ?_
        refine RunL.still rfl rfl rfl (Still.indexArrNL rfl rfl rfl Tryz.underlying91 Tryz.sizeOf3 (by omega)) ?_
        refine RunL.does0 rfl rfl (Does.store1 rfl rfl rfl (i := 0) rfl Tryz.sizeOf3 rfl (Nat.ble_eq_true_of_le (show 0 + p * 1 + 1 ≤ 5 by omega))) (fun _ _ => ?_)
        refine RunL.conv (fun _ hs => hs.re 0 rfl (show _ = HL.obj b14 (.cells (rowTo s.1 (crAt d kk) (p + 1)) 91 (0, 0)) from congrArg (fun z => HL.obj b14 (.cells z 91 (0, 0))) (rowTo_set s.1 (crAt d kk) hp4))) ?_
        refine RunL.nil ?_
        refine Ends.block ?_
        refine Ends.then ?_
        refine RunC.region ?_
        refine RunL.still rfl rfl rfl (Still.add rfl rfl rfl (fits64 (by omega) (by omega))) ?_
        refine RunL.still rfl rfl rfl (Still.move rfl rfl) ?_
        refine RunL.nil ?_
        refine Ends.again (p + 1) ?_ ?_ (Fr.Sub.app ?_ ?_) ?_
        · show _; omega
        · show _ < _; omega
        · exact Fr.Sub.cons rfl (Fr.Sub.nil _)
        · exact Fr.Sub.cons rfl (Fr.Sub.cons rfl (Fr.Sub.cons rfl (Fr.Sub.cons rfl (Fr.Sub.cons rfl (Fr.Sub.cons rfl (Fr.Sub.cons rfl (Fr.Sub.cons rfl (Fr.Sub.cons rfl (Fr.Sub.nil _)))))))))
        · exact HSub.pick 0 rfl (HSub.pick 0 rfl (HSub.pick 0 rfl (HSub.pick 0 rfl (HSub.pick 0 rfl (HSub.pick 0 rfl (HSub.pick 0 rfl (HSub.nil _)))))))
      · have h94 := of_decide_eq_false h94
        obtain rfl : p = 4 := by omega
        refine RunC.exit ?_
        refine Ends.then_exit ?_
        refine Ends.then_exit ?_
        refine Ends.block_exit ?_
        refine Ends.then ?_
        refine RunC.seq ?_
        refine RunC.region ?_
        refine RunL.still rfl rfl rfl (Still.fieldAddrL (off := 0) (off' := 4) rfl rfl Tryz.underlying62 rfl Tryz.sizeOf3 rfl) ?_
        refine RunL.still rfl rfl rfl (Still.load rfl rfl Tryz.isAgg3 (fun _ hs => cell_nth (hs.at (i := 1) rfl) rfl)) ?_
        refine RunL.still rfl rfl rfl (Still.indexArrEL 4 rfl rfl rfl Tryz.underlying91 Tryz.sizeOf3 (rfl) (by omega)) ?_
        refine RunL.does0 rfl rfl (Does.store1 rfl rfl rfl (i := 0) rfl Tryz.sizeOf3 rfl (Nat.ble_eq_true_of_le (show 0 + 4 * 1 + 1 ≤ 5 by omega))) (fun _ _ => ?_)
        refine RunL.conv (fun _ hs => hs.re 0 rfl (show _ = HL.obj b14 (.cells #[iv (rowOf s.1 (crAt d kk)).a0, iv (rowOf s.1 (crAt d kk)).a1, iv (rowOf s.1 (crAt d kk)).a2, iv (rowOf s.1 (crAt d kk)).a3, iv (rowOf s.1 (crAt d kk)).s] 91 (0, 0)) from rfl)) ?_
        refine RunL.nil ?_
        refine Ends.then ?_
        refine RunC.region ?_
        refine RunL.still rfl rfl rfl (Still.move rfl rfl) ?_
        refine RunL.still rfl rfl rfl (Still.loads rfl rfl Tryz.isAgg91 Tryz.sizeOf91 (vs := [_, _, _, _, _]) rfl (fun _ hs => cells_nth (hs.at (i := 0) rfl) ⟨rfl, ⟨rfl, ⟨rfl, ⟨rfl, ⟨rfl, trivial⟩⟩⟩⟩⟩)) ?_
        refine RunL.grows rfl rfl rfl (Grows.slice1 rfl rfl Tryz.underlying83 Tryz.sizeOf91 rfl Tryz.zeroValue91 (by decide)) (fun b112 _ => ?_)
        refine RunL.does rfl rfl rfl (Does.appendTo (n' := (j + 1)) (xs' := ((rowsTo d s (j + 1)).flatMap encCr)) (news := [_, _, _, _, _]) rfl rfl rfl rfl (i := 3) rfl Tryz.underlying83 (by kernel_rfl : (_ : Option _) = some (some (.agg #[.int .i64 0, .int .i64 0, .int .i64 0, .int .i64 0, .int .i64 0]), 5, 40)) rfl rfl (fun _ hs => cells_nth (hs.at (i := 0) rfl) ⟨rfl, ⟨rfl, ⟨rfl, ⟨rfl, ⟨rfl, trivial⟩⟩⟩⟩⟩) rfl rfl (by omega) (by omega) (rfl) ((by rw [rowsTo_step hkk2, List.flatMap_append]; rfl))) (fun v113 hv113 => ?_)
        refine RunL.still rfl rfl rfl (Still.assign rfl rfl) ?_
        refine RunL.nil ?_
        refine Ends.block ?_
        refine Ends.then ?_
        refine RunC.region ?_
        refine RunL.still rfl rfl rfl (Still.add rfl rfl rfl (fits64 (by omega) (by omega))) ?_
        refine RunL.still rfl rfl rfl (Still.move rfl rfl) ?_
        refine RunL.nil ?_
        refine Ends.again (v113, j + 1) ?_ ?_ (Fr.Sub.app ?_ ?_) ?_
        · show j + 1 ≤ _; omega
        · show _ - (j + 1) < _ - j; omega
        · exact Fr.Sub.cons rfl (Fr.Sub.cons rfl (Fr.Sub.nil _))
        · exact Fr.Sub.cons rfl (Fr.Sub.cons rfl (Fr.Sub.cons rfl (Fr.Sub.cons rfl (Fr.Sub.nil _))))
        · exact HSub.pick 3 rfl (HSub.pick 3 rfl (HSub.pick 3 rfl (HSub.pick 3 rfl (HSub.pick 3 rfl (HSub.nil _)))))
    · have h80 := of_decide_eq_false h80
      obtain rfl : j = s.2.length := by omega
      refine RunC.exit ?_
      refine Ends.then_exit ?_
      refine Ends.then_exit ?_
      refine Ends.block_exit ?_
      refine Ends.then ?_
      refine RunC.seq ?_
      refine RunC.region ?_
      refine RunL.still rfl rfl rfl (Still.move rfl rfl) ?_
      refine RunL.still rfl rfl rfl (Still.assign rfl rfl) ?_
      refine RunL.nil ?_
      refine Ends.then ?_
      refine RunC.ret ?_
      rw [codeOf_len, show codeOf d c way = rowsTo d s s.2.length by rw [rowsTo_all, hS]; rfl, ← hS]
      refine Ends.leave (.inl rfl) (fun _ _ ok => results1 Tryz.results47 (Holds.tmp rfl) ok) (fun w1 hs => ?_)
      exact Ret.intro _ trivial rfl (HSub.pick 0 rfl (HSub.nil _)) hs

end Go.Proofs
/- Orders, as the program finds them. -/
namespace Go.Proofs
open Go Go.V
set_option maxRecDepth 20000
theorem z_Values (lb : Option Addr) (_LA : Addr) (lc : Nat) (xs : List Int) (w : World) : Gives Tryz.prog 87 #[lisV lb lc xs] w Nil (fun _ : Nat => True) (fun b => .func (.func 122) #[] #[ptrV b]) (fun b => [HL.obj b (.cells #[lisV lb lc xs] 36 (0, 0))]) := by
  refine fn_of_run (S := Nil) (args := [lisV lb lc xs]) (n := 4) (L := []) Tryz.func87 rfl Tryz.ntmps87 (Nat.le_of_ble_eq_true rfl) (Sym.nil _ _) ?_
  change RunC _ _ _ [(0, _)] _
  refine RunC.seq ?_
  refine RunC.region ?_
  refine RunL.grows rfl rfl rfl (Grows.box rfl rfl) (fun b1 _ => ?_)
  refine RunL.still rfl rfl rfl (Still.assign rfl rfl) ?_
  refine RunL.nil ?_
  refine Ends.then ?_
  refine RunC.seq ?_
  refine RunC.region ?_
  refine RunL.still rfl rfl rfl (Still.makeFunc (vs := #[_]) rfl rfl) ?_
  refine RunL.still rfl rfl rfl (Still.assign rfl rfl) ?_
  refine RunL.nil ?_
  refine Ends.then ?_
  refine RunC.ret ?_
  refine Ends.leave (.inl rfl) (fun _ _ ok => results1 Tryz.results87 (Holds.tmp rfl) ok) (fun w1 hs => ?_)
  exact Ret.intro b1 trivial rfl (HSub.pick 0 rfl (HSub.nil _)) hs

theorem z_values1 (lb : Option Addr) (LA : Addr) (lc : Nat) (xs : List Int) (l vb : Nat) {σ : Type} (s0 : σ) (jmp : σ → Option Code) (J : Nat → σ → HL) (w : World) (h0 : jmp s0 = none) (hJ : (J 0 s0).holds w) (hlt : ∀ b, (J 0 s0).supp b → b < w.heap.size) (hx : ∀ w', Old (J 0 s0).supp w w' → IntsAt w' lb LA lc xs)
  (hb : ∀ w', Old (J 0 s0).supp w w' → w'.cell? ⟨vb, 0, none⟩ = some (lisV lb lc xs))
  (hy : ∀ j s, j < xs.length → jmp s = none → ∀ w', Old (J 0 s0).supp w w' → (J j s).holds w' → (∀ b, (J j s).supp b → b < w'.heap.size ∧ (w.heap.size ≤ b ∨ (J 0 s0).supp b)) → YieldsJ Tryz.prog l #[iv (xs.getD j 0)] w' (J j s).supp jmp (J (j + 1))) :
  Gives Tryz.prog 122 #[.func (.yield l) #[] #[], ptrV vb] w (J 0 s0).supp (fun r : Nat × σ => jmp r.2 = none → r.1 = xs.length) (fun _ => .tuple #[]) (fun r => [J r.1 r.2]) := by
  have hxw := hx w (Old.refl _ w)
  have hle := hxw.le
  have hlen := hxw.len
  refine fn_of_run (S := (J 0 s0).supp) (args := [.func (.yield l) #[] #[], ptrV vb]) (n := 16) (L := [J 0 s0]) Tryz.func122 rfl Tryz.ntmps122 (Nat.le_of_ble_eq_true rfl) (Sym.own1 hJ hlt) ?_
  change RunC _ _ _ [(0, _), (1, _)] _
  refine RunC.seq ?_
  refine RunC.region ?_
  refine RunL.still rfl rfl rfl (Still.load (v := lisV lb lc xs) rfl rfl Tryz.isAgg36 (fun _ hs => hb _ hs.old)) ?_
  refine RunL.still rfl rfl rfl (Still.lenV rfl rfl Tryz.underlying36 (hxw.shape)) ?_
  refine RunL.still rfl rfl rfl (Still.move rfl rfl) ?_
  refine RunL.nil ?_
  refine Ends.then ?_
  refine RunC.block ?_
  refine RunC.loop2 (γ := Nat × σ) (keep := [(0, _), (5, _), (6, _)]) (hkeep := []) (fun (j, s) => j ≤ xs.length ∧ jmp s = none) (fun (j, s) => xs.length - j) (fun (j, s) => [(7, iv j)]) (fun (j, s) => [J j s]) (0, s0) ⟨Nat.zero_le _, h0⟩ (Fr.Sub.cons rfl (Fr.Sub.nil _)) (Fr.Sub.cons rfl (Fr.Sub.cons rfl (Fr.Sub.cons rfl (Fr.Sub.nil _)))) (HSub.pick 0 rfl (HSub.nil _)) ?_
  rintro ⟨j, s⟩ ⟨hj, hjs⟩
  have hj : j ≤ xs.length := hj
  have hjs : jmp s = none := hjs
  refine RunC.seq ?_
  refine RunC.region ?_
  refine RunL.still rfl rfl rfl (Still.lss rfl rfl rfl) ?_
  refine RunL.nil ?_
  refine Ends.then ?_
  refine RunC.seq ?_
  refine RunC.cond rfl (fun h8 => ?_) (fun h8 => ?_)
  · have h8 := of_decide_eq_true h8
    have hjN : j < xs.length := by omega
    obtain ⟨y, hxj⟩ := get_of_lt hjN
    have hgd : xs.getD j 0 = y := by rw [List.getD_eq_getElem?_getD, hxj]; rfl
    refine RunC.skip ?_
    refine Ends.then ?_
    refine RunC.seq ?_
    refine RunC.block ?_
    refine RunC.seq ?_
    refine RunC.region ?_
    refine RunL.still rfl rfl rfl (Still.indexV _ rfl rfl rfl Tryz.underlying36 Tryz.sizeOf3 (hxw.shape) (rfl) (by omega)) ?_
    refine RunL.still rfl rfl rfl (Still.load rfl rfl Tryz.isAgg3 (fun _ hs => cells_at ((hx _ hs.old).cells _) (ints_get hxj))) ?_
    refine RunL.still rfl rfl rfl (Still.assign rfl rfl) ?_
    refine RunL.nil ?_
    refine Ends.then ?_
    refine RunC.seq ?_
    refine RunC.region ?_
    refine RunL.still rfl rfl rfl (Still.move rfl rfl) ?_
    refine RunL.still rfl rfl rfl (Still.move rfl rfl) ?_
    refine RunL.does rfl rfl rfl (Does.yieldJ (l := l) (jmp := jmp) (H := J (j + 1)) rfl rfl rfl rfl (i := 0) rfl (fun w hs => by have h := hy j s hjN hjs w hs.old (hs.at (i := 0) rfl) (hs.supp _ (List.mem_of_getElem? (i := 0) rfl)); rw [hgd] at h; exact h)) (fun s13 _ => ?_)
    refine RunL.still rfl rfl rfl (Still.not rfl rfl) ?_
    refine RunL.nil ?_
    refine Ends.then ?_
    refine RunC.cond rfl (fun h14 => ?_) (fun h14 => ?_)
    · skip
      refine RunC.ret ?_
      refine Ends.block_ret ?_
      refine Ends.then_ret ?_
      refine Ends.then_ret ?_
      refine Ends.block_ret ?_
      refine Ends.leave (.inl rfl) (fun _ _ ok => results0 Tryz.results122  ok) (fun w1 hs => ?_)
      exact Ret.intro (j + 1, s13) (fun h => by have h : jmp s13 = none := h; simp [h] at h14) rfl (HSub.pick 0 rfl (HSub.nil _)) hs
    · skip
      refine RunC.skip ?_
      refine Ends.block ?_
      refine Ends.then ?_
      refine RunC.region ?_
      refine RunL.still rfl rfl rfl (Still.add rfl rfl rfl (fits64 (by omega) (by omega))) ?_
      refine RunL.still rfl rfl rfl (Still.move rfl rfl) ?_
      refine RunL.nil ?_
      refine Ends.again (j + 1, s13) ?_ ?_ (Fr.Sub.app ?_ ?_) ?_
      · exact ⟨by show j + 1 ≤ _; omega, by simpa using h14⟩
      · show _ - (j + 1) < _ - j; omega
      · exact Fr.Sub.cons rfl (Fr.Sub.nil _)
      · exact Fr.Sub.cons rfl (Fr.Sub.cons rfl (Fr.Sub.cons rfl (Fr.Sub.nil _)))
      · exact HSub.pick 0 rfl (HSub.nil _)
  · have h8 := of_decide_eq_false h8
    obtain rfl : j = xs.length := by omega
    refine RunC.exit ?_
    refine Ends.then_exit ?_
    refine Ends.then_exit ?_
    refine Ends.block_exit ?_
    refine Ends.leave (.inr rfl) (fun _ _ ok => results0 Tryz.results122  ok) (fun w2 hs => ?_)
    exact Ret.intro (xs.length, s) (fun _ => rfl) rfl (HSub.pick 0 rfl (HSub.nil _)) hs

theorem ints_take_snoc {xs : List Int} {j : Nat} {y : Int} (h : xs[j]? = some y) : ints (xs.take j) ++ [iv y] = ints (xs.take (j + 1)) := by
  rw [List.take_add_one, h, Option.toList_some, ints, ints, List.map_append, List.map_singleton]; rfl

theorem z_AppendSeq (lb : Option Addr) (LA : Addr) (lc : Nat) (xs : List Int) (vb : Nat) (w : World) (hx : IntsAt w lb LA lc xs) (h8 : xs.length * 8 ≤ 140737488355328) (hbx : w.cell? ⟨vb, 0, none⟩ = some (lisV lb lc xs)) : Gives Tryz.prog 152 #[.slice none 0 0, .func (.func 122) #[] #[ptrV vb]] w Nil (fun _ : Value => True) (fun v => v) (fun v => [HL.own 3 1 v xs.length (ints xs)]) := by
  refine fn_of_runM (S := Nil) (args := [.slice none 0 0, .func (.func 122) #[] #[ptrV vb]]) (n := 13) (L := []) Tryz.func152 rfl Tryz.ntmps152 (Nat.le_of_ble_eq_true rfl) (Sym.nil _ _) ?_
  change RunC _ _ _ [(0, _), (1, _)] _
  refine RunC.conv (fun _ hs => hs.marks_nil) ?_
  refine RunC.seq ?_
  refine RunC.region ?_
  refine RunL.grows rfl rfl rfl (Grows.box rfl rfl) (fun b2 _ => ?_)
  refine RunL.still rfl rfl rfl (Still.assign rfl rfl) ?_
  refine RunL.nil ?_
  refine Ends.then ?_
  refine RunC.seq ?_
  refine RunC.seq ?_
  refine RunC.own_nil 3 1 ?_
  refine RunC.region ?_
  refine RunL.still rfl rfl rfl (Still.move rfl rfl) ?_
  refine RunL.nil ?_
  refine Ends.then ?_
  refine RunC.block ?_
  refine RunC.conv (fun _ hs => Sym.all (l := [_, _]) (hs.sub (HSub.pick 0 rfl (HSub.pick 0 rfl (HSub.pick 0 rfl (HSub.nil _)))))) ?_
  refine RunC.rangeFuncJ (V := .tuple #[]) (gf := 122) (N := xs.length) (lb := #[ptrV vb]) (.slice none 0 0) (fun _ : Value => none) (fun j => [iv (xs.getD j 0)]) (fun j s => HL.all [HL.own 3 1 s (xs.take j).length (ints (xs.take j)), HL.obj b2 (.cells #[s] 36 (0, 0))]) rfl rfl (fun _ => rfl) rfl Tryz.call122 rfl (HSub.pick 0 rfl (HSub.refl _)) ?_ ?_ ?_
  · intro l rc j s w S hO hS hj hjs ha hb
    have hjN : j < xs.length := by assumption
    obtain ⟨y, hxj⟩ := get_of_lt hjN
    have hgd : xs.getD j 0 = y := by rw [List.getD_eq_getElem?_getD, hxj]; rfl
    rw [hgd]
    refine RunC.region ?_
    refine RunL.still rfl rfl rfl (Still.assign rfl rfl) ?_
    refine RunL.nil ?_
    refine Ends.roundBeginJ (Fr.Sub.refl _) (HSub.pick 0 rfl (HSub.refl _)) ?_
    refine RunC.conv (fun _ hs => Sym.unall (hs.sub (HSub.pick 1 rfl (HSub.pick 0 rfl (HSub.nil _))))) ?_
    refine RunC.block ?_
    refine RunC.region ?_
    refine RunL.still rfl rfl rfl (Still.load rfl rfl Tryz.isAgg36 (fun _ hs => cell_nth (hs.at (i := 1) rfl) rfl)) ?_
    refine RunL.still rfl rfl rfl (Still.move rfl rfl) ?_
    refine RunL.grows rfl rfl rfl (Grows.slice1 rfl rfl Tryz.underlying36 Tryz.sizeOf3 rfl Tryz.zeroValue3 (by decide)) (fun b10 _ => ?_)
    refine RunL.does rfl rfl rfl (Does.appendTo (n' := (xs.take (j + 1)).length) (xs' := (ints (xs.take (j + 1)))) (news := [_]) rfl rfl rfl rfl (i := 1) rfl Tryz.underlying36 (by kernel_rfl : (_ : Option _) = some (some (.int .i64 0), 1, 8)) rfl rfl (fun _ hs => cells_nth (hs.at (i := 0) rfl) ⟨rfl, trivial⟩) rfl rfl ((by rw [List.length_take]; omega)) ((by rw [List.length_take]; omega)) ((by simp [List.length_take]; omega)) (ints_take_snoc hxj)) (fun v11 hv11 => ?_)
    refine RunL.know (fun _ hs => own_oneCell (hs.own (i := 1) rfl)) (fun h1v => ?_)
    refine RunL.does0 rfl rfl (Does.store1 rfl rfl rfl (i := 2) rfl Tryz.sizeOf36 (h1v) (rfl)) (fun _ _ => ?_)
    refine RunL.conv (fun _ hs => hs.re 2 rfl (show _ = HL.obj b2 (.cells #[v11] 36 (0, 0)) from rfl)) ?_
    refine RunL.nil ?_
    refine Ends.block ?_
    refine Ends.conv (fun _ hs => (Sym.all (l := [HL.own 3 1 v11 (xs.take (j + 1)).length (ints (xs.take (j + 1))), HL.obj b2 (.cells #[v11] 36 (0, 0))]) (hs.sub (HSub.pick 1 rfl (HSub.pick 1 rfl (HSub.pick 1 rfl (HSub.nil _)))))).sub (HSub.pick 1 rfl (HSub.pick 0 rfl (HSub.nil _)))) (Ends.roundEndJ v11 rfl (HSub.refl _))
  · intro l J w hs hy
    exact z_values1 lb LA lc xs l vb _ _ J w rfl (hs.holds _ (List.mem_cons_self ..)) hs.ltK (fun w1 ho => hx.old (hs.oldK ho)) (fun w1 ho => (hs.oldK ho).cell hbx (fun x => x)) (fun j s hj hn w1 ho hh hl => hy j s hj hn w1 ho hh hl)
  · intro D j s hjN
    skip
    · change Go.V.Ends _ Exit.normal _ _ _
      refine Ends.conv (fun _ hs => Sym.marks_push (hs.sub (HSub.pick 1 rfl (HSub.pick 1 rfl (HSub.pick 0 rfl (HSub.nil _)))))) ?_
      refine Ends.conv (fun _ hs => Sym.unall (hs.sub (HSub.pick 1 rfl (HSub.pick 0 rfl (HSub.nil _))))) ?_
      have hgN := hjN rfl
      subst hgN
      refine Ends.conv (fun _ hs => hs.re 0 rfl (show _ = HL.own 3 1 s xs.length (ints xs) by rw [List.take_length])) ?_
      refine Ends.block ?_
      refine Ends.then ?_
      refine RunC.seq ?_
      refine RunC.region ?_
      refine RunL.still rfl rfl rfl (Still.load rfl rfl Tryz.isAgg36 (fun _ hs => cell_nth (hs.at (i := 1) rfl) rfl)) ?_
      refine RunL.still rfl rfl rfl (Still.assign rfl rfl) ?_
      refine RunL.nil ?_
      refine Ends.then ?_
      refine RunC.ret ?_
      refine Ends.leaveM (Ds := [D]) (H := [_]) (.inl rfl) (HSub.pick 2 rfl (HSub.pick 0 rfl (HSub.nil _))) (fun _ _ ok => ok.results1 Tryz.results152 (Holds.tmp rfl)) (fun w1 hs => ?_)
      exact Ret.intro s trivial rfl (HSub.pick 0 rfl (HSub.nil _)) hs

theorem z_Collect (lb : Option Addr) (LA : Addr) (lc : Nat) (xs : List Int) (vb : Nat) (w : World) (hx : IntsAt w lb LA lc xs) (h8 : xs.length * 8 ≤ 140737488355328) (hbx : w.cell? ⟨vb, 0, none⟩ = some (lisV lb lc xs)) : Gives Tryz.prog 120 #[.func (.func 122) #[] #[ptrV vb]] w Nil (fun _ : Value => True) (fun v => v) (fun v => [HL.own 3 1 v xs.length (ints xs)]) := by
  refine fn_of_run (S := Nil) (args := [.func (.func 122) #[] #[ptrV vb]]) (n := 5) (L := []) Tryz.func120 rfl Tryz.ntmps120 (Nat.le_of_ble_eq_true rfl) (Sym.nil _ _) ?_
  change RunC _ _ _ [(0, _)] _
  refine RunC.seq ?_
  refine RunC.region ?_
  refine RunL.still rfl rfl rfl (Still.assign rfl rfl) ?_
  refine RunL.nil ?_
  refine Ends.then ?_
  refine RunC.seq ?_
  refine RunC.region ?_
  refine RunL.still rfl rfl rfl (Still.move rfl rfl) ?_
  refine RunL.grows rfl rfl rfl (Grows.call (vs := #[_, _]) rfl rfl Tryz.call152 (fun w hs => z_AppendSeq lb LA lc xs vb w (hx.sym hs) h8 (hs.base0 hbx))) (fun v4 _ => ?_)
  refine RunL.still rfl rfl rfl (Still.assign rfl rfl) ?_
  refine RunL.nil ?_
  refine Ends.then ?_
  refine RunC.ret ?_
  refine Ends.leave (.inl rfl) (fun _ _ ok => results1 Tryz.results120 (Holds.tmp rfl) ok) (fun w1 hs => ?_)
  exact Ret.intro v4 trivial rfl (HSub.pick 0 rfl (HSub.nil _)) hs

theorem z_Sorted (lb : Option Addr) (LA : Addr) (lc : Nat) (xs : List Int) (vb : Nat) (w : World) (hx : IntsAt w lb LA lc xs) (h8 : xs.length * 8 ≤ 140737488355328) (hbx : w.cell? ⟨vb, 0, none⟩ = some (lisV lb lc xs)) : Gives Tryz.prog 86 #[.func (.func 122) #[] #[ptrV vb]] w Nil (fun _ : Value => True) (fun v => v) (fun v => [HL.own 3 1 v xs.length (ints (sortI xs))]) := by
  refine fn_of_run (S := Nil) (args := [.func (.func 122) #[] #[ptrV vb]]) (n := 9) (L := []) Tryz.func86 rfl Tryz.ntmps86 (Nat.le_of_ble_eq_true rfl) (Sym.nil _ _) ?_
  change RunC _ _ _ [(0, _)] _
  refine RunC.seq ?_
  refine RunC.region ?_
  refine RunL.still rfl rfl rfl (Still.assign rfl rfl) ?_
  refine RunL.nil ?_
  refine Ends.then ?_
  refine RunC.seq ?_
  refine RunC.region ?_
  refine RunL.still rfl rfl rfl (Still.move rfl rfl) ?_
  refine RunL.grows rfl rfl rfl (Grows.call (vs := #[_]) rfl rfl Tryz.call120 (fun w hs => z_Collect lb LA lc xs vb w (hx.sym hs) h8 (hs.base0 hbx))) (fun v5 _ => ?_)
  refine RunL.still rfl rfl rfl (Still.assign rfl rfl) ?_
  refine RunL.nil ?_
  refine Ends.then ?_
  refine RunC.seq ?_
  refine RunC.region ?_
  refine RunL.still rfl rfl rfl (Still.move rfl rfl) ?_
  refine RunL.does rfl rfl rfl (Does.call (vs := #[_]) (K := [_]) (R := []) (S' := _) rfl rfl Tryz.call121 (HSub.pick 0 rfl (HSub.nil _)) (fun c h => h) (fun w hs => z_SortI v5 xs (by omega) w hs.left.hand)) (fun _ _ => ?_)
  refine RunL.nil ?_
  refine Ends.then ?_
  refine RunC.seq ?_
  refine RunC.region ?_
  refine RunL.still rfl rfl rfl (Still.move rfl rfl) ?_
  refine RunL.still rfl rfl rfl (Still.assign rfl rfl) ?_
  refine RunL.nil ?_
  refine Ends.then ?_
  refine RunC.ret ?_
  refine Ends.leave (.inl rfl) (fun _ _ ok => results1 Tryz.results86 (Holds.tmp rfl) ok) (fun w1 hs => ?_)
  exact Ret.intro v5 trivial rfl (HSub.pick 0 rfl (HSub.nil _)) hs

theorem z_isOrder (lb : Option Addr) (LA : Addr) (lc : Nat) (xs : List Int) (n : Int) (w : World) (hx : IntsAt w lb LA lc xs) (h8 : xs.length * 8 ≤ 140737488355328) : Gives Tryz.prog 50 #[lisV lb lc xs, iv n] w Nil (fun _ : Unit => True) (fun _ => .bool (ordB xs n)) (fun _ => []) := by
  have hle := hx.le
  have hlen := hx.len
  have hsl := sortI_len xs
  refine fn_of_run (S := Nil) (args := [lisV lb lc xs, iv n]) (n := 26) (L := []) Tryz.func50 rfl Tryz.ntmps50 (Nat.le_of_ble_eq_true rfl) (Sym.nil _ _) ?_
  change RunC _ _ _ [(0, _), (1, _)] _
  refine RunC.seq ?_
  refine RunC.region ?_
  refine RunL.still rfl rfl rfl (Still.assign rfl rfl) ?_
  refine RunL.nil ?_
  refine Ends.then ?_
  refine RunC.seq ?_
  refine RunC.region ?_
  refine RunL.still rfl rfl rfl (Still.move rfl rfl) ?_
  refine RunL.grows rfl rfl rfl (Grows.call (vs := #[_]) rfl rfl Tryz.call87 (fun w hs => z_Values lb LA lc xs w)) (fun vb _ => ?_)
  refine RunL.grows rfl rfl rfl (Grows.call (vs := #[_]) rfl rfl Tryz.call86 (fun w hs => z_Sorted lb LA lc xs vb w (hx.sym hs) h8 (cell_nth (hs.at (i := 0) rfl) rfl))) (fun v10 _ => ?_)
  refine RunL.still rfl rfl rfl (Still.assign rfl rfl) ?_
  refine RunL.nil ?_
  refine Ends.then ?_
  refine RunC.seq ?_
  refine RunC.seq ?_
  refine RunC.region ?_
  refine RunL.still rfl rfl rfl (Still.move rfl rfl) ?_
  refine RunL.still rfl rfl rfl (Still.lenOwn rfl rfl Tryz.underlying36 (fun _ hs => hs.own (i := 0) rfl)) ?_
  refine RunL.still rfl rfl rfl (Still.move rfl rfl) ?_
  refine RunL.nil ?_
  refine Ends.then ?_
  refine RunC.block ?_
  refine RunC.loop2 (γ := Nat) (keep := [(0, _), (1, _), (11, _), (12, _)]) (hkeep := [_, _]) (fun i => i ≤ xs.length ∧ ∀ j : Nat, j < i → (sortI xs)[j]? = some (j : Int)) (fun i => xs.length - i) (fun i => [(13, iv i)]) (fun i => []) 0 ⟨Nat.zero_le _, fun j hj => absurd hj (Nat.not_lt_zero _)⟩ (Fr.Sub.cons rfl (Fr.Sub.nil _)) (Fr.Sub.cons rfl (Fr.Sub.cons rfl (Fr.Sub.cons rfl (Fr.Sub.cons rfl (Fr.Sub.nil _))))) (HSub.pick 0 rfl (HSub.pick 0 rfl (HSub.nil _))) ?_
  rintro i ⟨hi, hJ⟩
  have hi : i ≤ xs.length := hi
  refine RunC.seq ?_
  refine RunC.region ?_
  refine RunL.still rfl rfl rfl (Still.lss rfl rfl rfl) ?_
  refine RunL.nil ?_
  refine Ends.then ?_
  refine RunC.seq ?_
  refine RunC.cond rfl (fun h14 => ?_) (fun h14 => ?_)
  · have h14 := of_decide_eq_true h14
    obtain ⟨y, hy⟩ := get_of_lt (l := sortI xs) (i := i) (by omega)
    refine RunC.skip ?_
    refine Ends.then ?_
    refine RunC.seq ?_
    refine RunC.block ?_
    refine RunC.seq ?_
    refine RunC.region ?_
    refine RunL.still rfl rfl rfl (Still.move rfl rfl) ?_
    refine RunL.still rfl rfl rfl (Still.indexOwn rfl rfl rfl Tryz.underlying36 Tryz.sizeOf3 (fun _ hs => hs.own (i := 0) rfl) (by omega)) ?_
    refine RunL.still rfl rfl rfl (Still.load rfl rfl Tryz.isAgg3 (fun w hs => own_at (hs.own (i := 0) rfl) (ints_get hy))) ?_
    refine RunL.still rfl rfl rfl (Still.assign rfl rfl) ?_
    refine RunL.still rfl rfl rfl (Still.assign rfl rfl) ?_
    refine RunL.nil ?_
    refine Ends.then ?_
    refine RunC.seq ?_
    refine RunC.region ?_
    refine RunL.still rfl rfl rfl (Still.move rfl rfl) ?_
    refine RunL.still rfl rfl rfl (Still.move rfl rfl) ?_
    refine RunL.still rfl rfl rfl (Still.neq rfl rfl rfl) ?_
    refine RunL.nil ?_
    refine Ends.then ?_
    refine RunC.cond rfl (fun h20 => ?_) (fun h20 => ?_)
    · have h20 := of_decide_eq_true h20
      refine RunC.seq ?_
      refine RunC.region ?_
      refine RunL.still rfl rfl rfl (Still.assign rfl rfl) ?_
      refine RunL.nil ?_
      refine Ends.then ?_
      refine RunC.ret ?_
      refine Ends.block_ret ?_
      refine Ends.then_ret ?_
      refine Ends.then_ret ?_
      refine Ends.block_ret ?_
      refine Ends.then_ret ?_
      refine Ends.leave (.inl rfl) (fun _ _ ok => results1 Tryz.results50 (Holds.tmp rfl) ok) (fun w1 hs => ?_)
      exact Ret.intro () trivial (congrArg Value.bool (by rw [ordB, decide_eq_false (fun e => h20 (by rw [e, upTo_at (by omega)] at hy; exact Option.some.inj hy)), Bool.false_and])) (HSub.nil _) hs
    · have h20 : (i : Int) = y := Decidable.not_not.1 (of_decide_eq_false h20)
      refine RunC.skip ?_
      refine Ends.block ?_
      refine Ends.then ?_
      refine RunC.region ?_
      refine RunL.still rfl rfl rfl (Still.add rfl rfl rfl (fits64 (by omega) (by omega))) ?_
      refine RunL.still rfl rfl rfl (Still.move rfl rfl) ?_
      refine RunL.nil ?_
      refine Ends.again (i + 1) ?_ ?_ (Fr.Sub.app ?_ ?_) ?_
      · exact ⟨by show i + 1 ≤ _; omega, fun j hj => by by_cases e : j = i; subst e; rw [hy, h20]; exact hJ j (by omega)⟩
      · show _ - (i + 1) < _ - i; omega
      · exact Fr.Sub.cons rfl (Fr.Sub.nil _)
      · exact Fr.Sub.cons rfl (Fr.Sub.cons rfl (Fr.Sub.cons rfl (Fr.Sub.cons rfl (Fr.Sub.nil _))))
      · exact HSub.pick 0 rfl (HSub.pick 0 rfl (HSub.nil _))
  · have h14 := of_decide_eq_false h14
    obtain rfl : i = xs.length := by omega
    refine RunC.exit ?_
    refine Ends.then_exit ?_
    refine Ends.then_exit ?_
    refine Ends.block_exit ?_
    refine Ends.then ?_
    refine RunC.seq ?_
    refine RunC.region ?_
    refine RunL.still rfl rfl rfl (Still.move rfl rfl) ?_
    refine RunL.still rfl rfl rfl (Still.lenSlice rfl rfl Tryz.underlying36) ?_
    refine RunL.still rfl rfl rfl (Still.move rfl rfl) ?_
    refine RunL.still rfl rfl rfl (Still.eql rfl rfl rfl) ?_
    refine RunL.still rfl rfl rfl (Still.assign rfl rfl) ?_
    refine RunL.nil ?_
    refine Ends.then ?_
    refine RunC.ret ?_
    refine Ends.leave (.inl rfl) (fun _ _ ok => results1 Tryz.results50 (Holds.tmp rfl) ok) (fun w2 hs => ?_)
    exact Ret.intro () trivial (congrArg Value.bool (by rw [ordB, decide_eq_true (p := sortI xs = upTo xs.length) (List.ext_getElem? fun j => by by_cases e : j < xs.length; rw [hJ j e, upTo_at e]; rw [List.getElem?_eq_none (by omega), List.getElem?_eq_none (by rw [upTo_len]; omega)]), Bool.true_and])) (HSub.nil _) hs

end Go.Proofs
/- diag.Renumber. -/
namespace Go.Proofs
open Go Go.V
set_option maxRecDepth 20000
theorem dg_Renumber_bad (base : Option Addr) (A : Addr) (cap : Nat) (d : Dia) (ob : Option Addr) (OA : Addr) (oc : Nat) (xs : List Int) (yb : Option Addr) (YA : Addr) (yc : Nat) (ys : List Int) (w : World) (hd : DiaAt w base A d) (_hx : IntsAt w ob OA oc xs) (_hy : IntsAt w yb YA yc ys) (_h8x : xs.length * 8 ≤ 140737488355328) (_h8y : ys.length * 8 ≤ 140737488355328) (hc : checkI d ≠ 0) : Gives Tryz.prog 16 #[diaV base cap d, lisV ob oc xs, lisV yb yc ys] w Nil (fun _ : Unit => True) (fun _ => .tuple #[.agg #[.slice none 0 0, iv 0], iv (checkI d)]) (fun _ => []) := by
  refine fn_of_run (S := Nil) (args := [diaV base cap d, lisV ob oc xs, lisV yb yc ys]) (n := 87) (L := []) Tryz.func16 rfl Tryz.ntmps16 (Nat.le_of_ble_eq_true rfl) (Sym.nil _ _) ?_
  change RunC _ _ _ [(0, _), (1, _), (2, _)] _
  refine RunC.seq ?_
  refine RunC.region ?_
  refine RunL.grows rfl rfl rfl (Grows.box rfl rfl) (fun b3 _ => ?_)
  refine RunL.grows rfl rfl rfl (Grows.alloc rfl Tryz.zeroValue24) (fun b6 _ => ?_)
  refine RunL.still rfl rfl rfl (Still.assign rfl rfl) ?_
  refine RunL.nil ?_
  refine Ends.then ?_
  refine RunC.seq ?_
  refine RunC.region ?_
  refine RunL.still rfl rfl rfl (Still.loads rfl rfl Tryz.isAgg24 Tryz.sizeOf24 (vs := [_, _]) rfl (fun _ hs => cells_nth (hs.at (i := 1) rfl) ⟨rfl, ⟨rfl, trivial⟩⟩)) ?_
  refine RunL.grows rfl rfl rfl (Grows.call (vs := #[_]) rfl rfl Tryz.call31 (fun w hs => dg_enter_bad base A cap d w (hd.sym hs) hc)) (fun _ _ => ?_)
  refine RunL.still rfl rfl rfl (Still.move rfl rfl) ?_
  refine RunL.still rfl rfl rfl (Still.extractN rfl rfl rfl) ?_
  refine RunL.still rfl rfl rfl (Still.extractN rfl rfl rfl) ?_
  refine RunL.still rfl rfl rfl (Still.assign rfl rfl) ?_
  refine RunL.still rfl rfl rfl (Still.assign rfl rfl) ?_
  refine RunL.nil ?_
  refine Ends.then ?_
  refine RunC.seq ?_
  refine RunC.seq ?_
  refine RunC.region ?_
  refine RunL.still rfl rfl rfl (Still.move rfl rfl) ?_
  refine RunL.still rfl rfl rfl (Still.neq rfl rfl rfl) ?_
  refine RunL.nil ?_
  refine Ends.then ?_
  refine RunC.cond rfl (fun h22 => ?_) (fun h22 => ?_)
  · have h22 := of_decide_eq_true h22
    refine RunC.seq ?_
    refine RunC.region ?_
    refine RunL.still rfl rfl rfl (Still.build_0 (.agg #[.slice none 0 0, .int .i64 0]) rfl (fun _ => by kernel_rfl)) ?_
    refine RunL.still rfl rfl rfl (Still.move rfl rfl) ?_
    refine RunL.does0 rfl rfl (Does.store rfl rfl rfl (i := 0) rfl Tryz.sizeOf24 rfl (rfl) rfl) (fun _ _ => ?_)
    refine RunL.conv (fun _ hs => hs.re 0 rfl (show _ = HL.obj b6 (.cells #[.slice none 0 0, iv 0] 24 (0, 0)) from rfl)) ?_
    refine RunL.still rfl rfl rfl (Still.assign rfl rfl) ?_
    refine RunL.nil ?_
    refine Ends.then ?_
    refine RunC.ret ?_
    refine Ends.then_ret ?_
    refine Ends.leave (.inl rfl) (fun _ _ ok => results2 Tryz.results16 (Holds.cell rfl (fun _ hs => load_cells (vs := [_, _]) Tryz.isAgg24 Tryz.sizeOf24 rfl (cells_nth (hs.at (i := 0) rfl) ⟨rfl, ⟨rfl, trivial⟩⟩))) (Holds.tmp rfl) ok) (fun w1 hs => ?_)
    exact Ret.intro () trivial rfl (HSub.nil _) hs
  · have h22 := of_decide_eq_false h22
    exact absurd hc h22

theorem dg_Renumber_arg1 (base : Option Addr) (A : Addr) (cap : Nat) (d : Dia) (ob : Option Addr) (OA : Addr) (oc : Nat) (xs : List Int) (yb : Option Addr) (YA : Addr) (yc : Nat) (ys : List Int) (w : World) (hd : DiaAt w base A d) (hx : IntsAt w ob OA oc xs) (_hy : IntsAt w yb YA yc ys) (h8x : xs.length * 8 ≤ 140737488355328) (_h8y : ys.length * 8 ≤ 140737488355328) (hc : checkI d = 0) (h1 : ordB xs d.cross.length = false) : Gives Tryz.prog 16 #[diaV base cap d, lisV ob oc xs, lisV yb yc ys] w Nil (fun _ : Unit => True) (fun _ => .tuple #[.agg #[.slice none 0 0, iv 0], iv 1]) (fun _ => []) := by
  obtain ⟨hS, hPl⟩ := checkI_ok.1 hc
  have h200 := hS.1
  have hlo := hS.2.1
  have hlo2 := hS.2.2.1
  refine fn_of_run (S := Nil) (args := [diaV base cap d, lisV ob oc xs, lisV yb yc ys]) (n := 87) (L := []) Tryz.func16 rfl Tryz.ntmps16 (Nat.le_of_ble_eq_true rfl) (Sym.nil _ _) ?_
  change RunC _ _ _ [(0, _), (1, _), (2, _)] _
  refine RunC.seq ?_
  refine RunC.region ?_
  refine RunL.grows rfl rfl rfl (Grows.box rfl rfl) (fun b3 _ => ?_)
  refine RunL.grows rfl rfl rfl (Grows.alloc rfl Tryz.zeroValue24) (fun b6 _ => ?_)
  refine RunL.still rfl rfl rfl (Still.assign rfl rfl) ?_
  refine RunL.nil ?_
  refine Ends.then ?_
  refine RunC.seq ?_
  refine RunC.region ?_
  refine RunL.still rfl rfl rfl (Still.loads rfl rfl Tryz.isAgg24 Tryz.sizeOf24 (vs := [_, _]) rfl (fun _ hs => cells_nth (hs.at (i := 1) rfl) ⟨rfl, ⟨rfl, trivial⟩⟩)) ?_
  refine RunL.grows rfl rfl rfl (Grows.call (vs := #[_]) rfl rfl Tryz.call31 (fun w hs => dg_enter_ok base A cap d w (hd.sym hs) hc)) (fun ⟨eb, av⟩ hav => ?_)
  have hav : Shape av (2 * d.cross.length) := hav
  refine RunL.still rfl rfl rfl (Still.move rfl rfl) ?_
  refine RunL.still rfl rfl rfl (Still.extractN rfl rfl rfl) ?_
  refine RunL.still rfl rfl rfl (Still.extractN rfl rfl rfl) ?_
  refine RunL.still rfl rfl rfl (Still.assign rfl rfl) ?_
  refine RunL.still rfl rfl rfl (Still.assign rfl rfl) ?_
  refine RunL.nil ?_
  refine Ends.then ?_
  refine RunC.seq ?_
  refine RunC.seq ?_
  refine RunC.region ?_
  refine RunL.still rfl rfl rfl (Still.move rfl rfl) ?_
  refine RunL.still rfl rfl rfl (Still.neq rfl rfl rfl) ?_
  refine RunL.nil ?_
  refine Ends.then ?_
  refine RunC.cond rfl (fun h22 => ?_) (fun h22 => ?_)
  · have h22 := of_decide_eq_true h22
    exact absurd rfl h22
  · have h22 := of_decide_eq_false h22
    refine RunC.skip ?_
    refine Ends.then ?_
    refine RunC.seq ?_
    refine RunC.seq ?_
    refine RunC.region ?_
    refine RunL.still rfl rfl rfl (Still.move rfl rfl) ?_
    refine RunL.still rfl rfl rfl (Still.move rfl rfl) ?_
    refine RunL.still rfl rfl rfl (Still.nilCheck rfl rfl) ?_
    refine RunL.still rfl rfl rfl (Still.fieldAddrA (off := 0) rfl rfl Tryz.underlying89 rfl Tryz.sizeOf24 rfl) ?_
    refine RunL.still rfl rfl rfl (Still.fieldAddrA (off := 0) rfl rfl Tryz.underlying24 rfl Tryz.sizeOf22 rfl) ?_
    refine RunL.still rfl rfl rfl (Still.load (v := .slice base d.cross.length cap) rfl rfl Tryz.isAgg22 (fun _ hs => ((DgAt.of_own (hd.sym hs) (hs.at (i := 0) rfl) (hs.own (i := 1) rfl))).c0)) ?_
    refine RunL.still rfl rfl rfl (Still.lenSlice rfl rfl Tryz.underlying22) ?_
    refine RunL.grows rfl rfl rfl (Grows.call (vs := #[_, _]) rfl rfl Tryz.call50 (fun w hs => z_isOrder ob OA oc xs d.cross.length w (hx.sym hs) h8x)) (fun _ _ => ?_)
    refine RunL.again (t := 32) (u := .bool false) rfl (congrArg Value.bool h1) ?_
    refine RunL.still rfl rfl rfl (Still.not rfl rfl) ?_
    refine RunL.still rfl rfl rfl (Still.move rfl rfl) ?_
    refine RunL.off rfl rfl rfl ?_
    refine RunL.off rfl rfl rfl ?_
    refine RunL.off rfl rfl rfl ?_
    refine RunL.off rfl rfl rfl ?_
    refine RunL.off rfl rfl rfl ?_
    refine RunL.off rfl rfl rfl ?_
    refine RunL.off rfl rfl rfl ?_
    refine RunL.off rfl rfl rfl ?_
    refine RunL.still rfl rfl rfl (Still.pickT rfl rfl rfl) ?_
    refine RunL.nil ?_
    refine Ends.then ?_
    refine RunC.cond_true rfl ?_
    refine RunC.seq ?_
    refine RunC.region ?_
    refine RunL.still rfl rfl rfl (Still.build_0 (.agg #[.slice none 0 0, .int .i64 0]) rfl (fun _ => by kernel_rfl)) ?_
    refine RunL.does0 rfl rfl (Does.store rfl rfl rfl (i := 2) rfl Tryz.sizeOf24 rfl (rfl) rfl) (fun _ _ => ?_)
    refine RunL.conv (fun _ hs => hs.re 2 rfl (show _ = HL.obj b6 (.cells #[.slice none 0 0, iv 0] 24 (0, 0)) from rfl)) ?_
    refine RunL.still rfl rfl rfl (Still.assign rfl rfl) ?_
    refine RunL.nil ?_
    refine Ends.then ?_
    refine RunC.ret ?_
    refine Ends.then_ret ?_
    refine Ends.leave (.inl rfl) (fun _ _ ok => results2 Tryz.results16 (Holds.cell rfl (fun _ hs => load_cells (vs := [_, _]) Tryz.isAgg24 Tryz.sizeOf24 rfl (cells_nth (hs.at (i := 2) rfl) ⟨rfl, ⟨rfl, trivial⟩⟩))) (Holds.tmp rfl) ok) (fun w1 hs => ?_)
    exact Ret.intro () trivial rfl (HSub.nil _) hs

theorem dg_Renumber_arg2 (base : Option Addr) (A : Addr) (cap : Nat) (d : Dia) (ob : Option Addr) (OA : Addr) (oc : Nat) (xs : List Int) (yb : Option Addr) (YA : Addr) (yc : Nat) (ys : List Int) (w : World) (hd : DiaAt w base A d) (hx : IntsAt w ob OA oc xs) (hy : IntsAt w yb YA yc ys) (h8x : xs.length * 8 ≤ 140737488355328) (h8y : ys.length * 8 ≤ 140737488355328) (hc : checkI d = 0) (h1 : ordB xs d.cross.length = true) (h2 : ordB ys (2 * d.cross.length : Nat) = false) : Gives Tryz.prog 16 #[diaV base cap d, lisV ob oc xs, lisV yb yc ys] w Nil (fun _ : Unit => True) (fun _ => .tuple #[.agg #[.slice none 0 0, iv 0], iv 1]) (fun _ => []) := by
  obtain ⟨hS, hPl⟩ := checkI_ok.1 hc
  have h200 := hS.1
  have hlo := hS.2.1
  have hlo2 := hS.2.2.1
  refine fn_of_run (S := Nil) (args := [diaV base cap d, lisV ob oc xs, lisV yb yc ys]) (n := 87) (L := []) Tryz.func16 rfl Tryz.ntmps16 (Nat.le_of_ble_eq_true rfl) (Sym.nil _ _) ?_
  change RunC _ _ _ [(0, _), (1, _), (2, _)] _
  refine RunC.seq ?_
  refine RunC.region ?_
  refine RunL.grows rfl rfl rfl (Grows.box rfl rfl) (fun b3 _ => ?_)
  refine RunL.grows rfl rfl rfl (Grows.alloc rfl Tryz.zeroValue24) (fun b6 _ => ?_)
  refine RunL.still rfl rfl rfl (Still.assign rfl rfl) ?_
  refine RunL.nil ?_
  refine Ends.then ?_
  refine RunC.seq ?_
  refine RunC.region ?_
  refine RunL.still rfl rfl rfl (Still.loads rfl rfl Tryz.isAgg24 Tryz.sizeOf24 (vs := [_, _]) rfl (fun _ hs => cells_nth (hs.at (i := 1) rfl) ⟨rfl, ⟨rfl, trivial⟩⟩)) ?_
  refine RunL.grows rfl rfl rfl (Grows.call (vs := #[_]) rfl rfl Tryz.call31 (fun w hs => dg_enter_ok base A cap d w (hd.sym hs) hc)) (fun ⟨eb, av⟩ hav => ?_)
  have hav : Shape av (2 * d.cross.length) := hav
  refine RunL.still rfl rfl rfl (Still.move rfl rfl) ?_
  refine RunL.still rfl rfl rfl (Still.extractN rfl rfl rfl) ?_
  refine RunL.still rfl rfl rfl (Still.extractN rfl rfl rfl) ?_
  refine RunL.still rfl rfl rfl (Still.assign rfl rfl) ?_
  refine RunL.still rfl rfl rfl (Still.assign rfl rfl) ?_
  refine RunL.nil ?_
  refine Ends.then ?_
  refine RunC.seq ?_
  refine RunC.seq ?_
  refine RunC.region ?_
  refine RunL.still rfl rfl rfl (Still.move rfl rfl) ?_
  refine RunL.still rfl rfl rfl (Still.neq rfl rfl rfl) ?_
  refine RunL.nil ?_
  refine Ends.then ?_
  refine RunC.cond rfl (fun h22 => ?_) (fun h22 => ?_)
  · have h22 := of_decide_eq_true h22
    exact absurd rfl h22
  · have h22 := of_decide_eq_false h22
    refine RunC.skip ?_
    refine Ends.then ?_
    refine RunC.seq ?_
    refine RunC.seq ?_
    refine RunC.region ?_
    refine RunL.still rfl rfl rfl (Still.move rfl rfl) ?_
    refine RunL.still rfl rfl rfl (Still.move rfl rfl) ?_
    refine RunL.still rfl rfl rfl (Still.nilCheck rfl rfl) ?_
    refine RunL.still rfl rfl rfl (Still.fieldAddrA (off := 0) rfl rfl Tryz.underlying89 rfl Tryz.sizeOf24 rfl) ?_
    refine RunL.still rfl rfl rfl (Still.fieldAddrA (off := 0) rfl rfl Tryz.underlying24 rfl Tryz.sizeOf22 rfl) ?_
    refine RunL.still rfl rfl rfl (Still.load (v := .slice base d.cross.length cap) rfl rfl Tryz.isAgg22 (fun _ hs => ((DgAt.of_own (hd.sym hs) (hs.at (i := 0) rfl) (hs.own (i := 1) rfl))).c0)) ?_
    refine RunL.still rfl rfl rfl (Still.lenSlice rfl rfl Tryz.underlying22) ?_
    refine RunL.grows rfl rfl rfl (Grows.call (vs := #[_, _]) rfl rfl Tryz.call50 (fun w hs => z_isOrder ob OA oc xs d.cross.length w (hx.sym hs) h8x)) (fun _ _ => ?_)
    refine RunL.again (t := 32) (u := .bool true) rfl (congrArg Value.bool h1) ?_
    refine RunL.still rfl rfl rfl (Still.not rfl rfl) ?_
    refine RunL.still rfl rfl rfl (Still.move rfl rfl) ?_
    refine RunL.still rfl rfl rfl (Still.move rfl rfl) ?_
    refine RunL.still rfl rfl rfl (Still.move rfl rfl) ?_
    refine RunL.still rfl rfl rfl (Still.nilCheck rfl rfl) ?_
    refine RunL.still rfl rfl rfl (Still.fieldAddrA (off := 2) rfl rfl Tryz.underlying89 rfl Tryz.sizeOf87 rfl) ?_
    refine RunL.still rfl rfl rfl (Still.load (v := av) rfl rfl Tryz.isAgg87 (fun _ hs => ((DgAt.of_own (hd.sym hs) (hs.at (i := 0) rfl) (hs.own (i := 1) rfl))).c2)) ?_
    refine RunL.still rfl rfl rfl (Still.lenV rfl rfl Tryz.underlying87 (hav)) ?_
    refine RunL.grows rfl rfl rfl (Grows.call (vs := #[_, _]) rfl rfl Tryz.call50 (fun w hs => z_isOrder yb YA yc ys (2 * d.cross.length : Nat) w (hy.sym hs) h8y)) (fun _ _ => ?_)
    refine RunL.again (t := 41) (u := .bool false) rfl (congrArg Value.bool h2) ?_
    refine RunL.still rfl rfl rfl (Still.not rfl rfl) ?_
    refine RunL.still rfl rfl rfl (Still.pickF rfl rfl rfl) ?_
    refine RunL.nil ?_
    refine Ends.then ?_
    refine RunC.cond_true rfl ?_
    refine RunC.seq ?_
    refine RunC.region ?_
    refine RunL.still rfl rfl rfl (Still.build_0 (.agg #[.slice none 0 0, .int .i64 0]) rfl (fun _ => by kernel_rfl)) ?_
    refine RunL.does0 rfl rfl (Does.store rfl rfl rfl (i := 2) rfl Tryz.sizeOf24 rfl (rfl) rfl) (fun _ _ => ?_)
    refine RunL.conv (fun _ hs => hs.re 2 rfl (show _ = HL.obj b6 (.cells #[.slice none 0 0, iv 0] 24 (0, 0)) from rfl)) ?_
    refine RunL.still rfl rfl rfl (Still.assign rfl rfl) ?_
    refine RunL.nil ?_
    refine Ends.then ?_
    refine RunC.ret ?_
    refine Ends.then_ret ?_
    refine Ends.leave (.inl rfl) (fun _ _ ok => results2 Tryz.results16 (Holds.cell rfl (fun _ hs => load_cells (vs := [_, _]) Tryz.isAgg24 Tryz.sizeOf24 rfl (cells_nth (hs.at (i := 2) rfl) ⟨rfl, ⟨rfl, trivial⟩⟩))) (Holds.tmp rfl) ok) (fun w1 hs => ?_)
    exact Ret.intro () trivial rfl (HSub.nil _) hs

theorem dg_Renumber_ok (base : Option Addr) (A : Addr) (cap : Nat) (d : Dia) (ob : Option Addr) (OA : Addr) (oc : Nat) (xs : List Int) (yb : Option Addr) (YA : Addr) (yc : Nat) (ys : List Int) (w : World) (hd : DiaAt w base A d) (hx : IntsAt w ob OA oc xs) (hy : IntsAt w yb YA yc ys) (h8x : xs.length * 8 ≤ 140737488355328) (h8y : ys.length * 8 ≤ 140737488355328) (hc : checkI d = 0) (h1 : ordB xs d.cross.length = true) (h2 : ordB ys (2 * d.cross.length : Nat) = true) : Gives Tryz.prog 16 #[diaV base cap d, lisV ob oc xs, lisV yb yc ys] w Nil (fun q : Option Addr × Nat => OKB q (renD d xs ys).cross.length) (fun q => .tuple #[diaV q.1 q.2 (renD d xs ys), iv 0]) (fun q => [ownD q (renD d xs ys)]) := by
  obtain ⟨hS, hPl⟩ := checkI_ok.1 hc
  have h200 := hS.1
  have hlo := hS.2.1
  have hlo2 := hS.2.2.1
  have l1 := (ordB_iff.1 h1).1
  have l2 := (ordB_iff.1 h2).1
  refine fn_of_run (S := Nil) (args := [diaV base cap d, lisV ob oc xs, lisV yb yc ys]) (n := 87) (L := []) Tryz.func16 rfl Tryz.ntmps16 (Nat.le_of_ble_eq_true rfl) (Sym.nil _ _) ?_
  change RunC _ _ _ [(0, _), (1, _), (2, _)] _
  refine RunC.seq ?_
  refine RunC.region ?_
  refine RunL.grows rfl rfl rfl (Grows.box rfl rfl) (fun b3 _ => ?_)
  refine RunL.grows rfl rfl rfl (Grows.alloc rfl Tryz.zeroValue24) (fun b6 _ => ?_)
  refine RunL.still rfl rfl rfl (Still.assign rfl rfl) ?_
  refine RunL.nil ?_
  refine Ends.then ?_
  refine RunC.seq ?_
  refine RunC.region ?_
  refine RunL.still rfl rfl rfl (Still.loads rfl rfl Tryz.isAgg24 Tryz.sizeOf24 (vs := [_, _]) rfl (fun _ hs => cells_nth (hs.at (i := 1) rfl) ⟨rfl, ⟨rfl, trivial⟩⟩)) ?_
  refine RunL.grows rfl rfl rfl (Grows.call (vs := #[_]) rfl rfl Tryz.call31 (fun w hs => dg_enter_ok base A cap d w (hd.sym hs) hc)) (fun ⟨eb, av⟩ hav => ?_)
  have hav : Shape av (2 * d.cross.length) := hav
  refine RunL.still rfl rfl rfl (Still.move rfl rfl) ?_
  refine RunL.still rfl rfl rfl (Still.extractN rfl rfl rfl) ?_
  refine RunL.still rfl rfl rfl (Still.extractN rfl rfl rfl) ?_
  refine RunL.still rfl rfl rfl (Still.assign rfl rfl) ?_
  refine RunL.still rfl rfl rfl (Still.assign rfl rfl) ?_
  refine RunL.nil ?_
  refine Ends.then ?_
  refine RunC.seq ?_
  refine RunC.seq ?_
  refine RunC.region ?_
  refine RunL.still rfl rfl rfl (Still.move rfl rfl) ?_
  refine RunL.still rfl rfl rfl (Still.neq rfl rfl rfl) ?_
  refine RunL.nil ?_
  refine Ends.then ?_
  refine RunC.cond rfl (fun h22 => ?_) (fun h22 => ?_)
  · have h22 := of_decide_eq_true h22
    exact absurd rfl h22
  · have h22 := of_decide_eq_false h22
    refine RunC.skip ?_
    refine Ends.then ?_
    refine RunC.seq ?_
    refine RunC.seq ?_
    refine RunC.region ?_
    refine RunL.still rfl rfl rfl (Still.move rfl rfl) ?_
    refine RunL.still rfl rfl rfl (Still.move rfl rfl) ?_
    refine RunL.still rfl rfl rfl (Still.nilCheck rfl rfl) ?_
    refine RunL.still rfl rfl rfl (Still.fieldAddrA (off := 0) rfl rfl Tryz.underlying89 rfl Tryz.sizeOf24 rfl) ?_
    refine RunL.still rfl rfl rfl (Still.fieldAddrA (off := 0) rfl rfl Tryz.underlying24 rfl Tryz.sizeOf22 rfl) ?_
    refine RunL.still rfl rfl rfl (Still.load (v := .slice base d.cross.length cap) rfl rfl Tryz.isAgg22 (fun _ hs => ((DgAt.of_own (hd.sym hs) (hs.at (i := 0) rfl) (hs.own (i := 1) rfl))).c0)) ?_
    refine RunL.still rfl rfl rfl (Still.lenSlice rfl rfl Tryz.underlying22) ?_
    refine RunL.grows rfl rfl rfl (Grows.call (vs := #[_, _]) rfl rfl Tryz.call50 (fun w hs => z_isOrder ob OA oc xs d.cross.length w (hx.sym hs) h8x)) (fun _ _ => ?_)
    refine RunL.again (t := 32) (u := .bool true) rfl (congrArg Value.bool h1) ?_
    refine RunL.still rfl rfl rfl (Still.not rfl rfl) ?_
    refine RunL.still rfl rfl rfl (Still.move rfl rfl) ?_
    refine RunL.still rfl rfl rfl (Still.move rfl rfl) ?_
    refine RunL.still rfl rfl rfl (Still.move rfl rfl) ?_
    refine RunL.still rfl rfl rfl (Still.nilCheck rfl rfl) ?_
    refine RunL.still rfl rfl rfl (Still.fieldAddrA (off := 2) rfl rfl Tryz.underlying89 rfl Tryz.sizeOf87 rfl) ?_
    refine RunL.still rfl rfl rfl (Still.load (v := av) rfl rfl Tryz.isAgg87 (fun _ hs => ((DgAt.of_own (hd.sym hs) (hs.at (i := 0) rfl) (hs.own (i := 1) rfl))).c2)) ?_
    refine RunL.still rfl rfl rfl (Still.lenV rfl rfl Tryz.underlying87 (hav)) ?_
    refine RunL.grows rfl rfl rfl (Grows.call (vs := #[_, _]) rfl rfl Tryz.call50 (fun w hs => z_isOrder yb YA yc ys (2 * d.cross.length : Nat) w (hy.sym hs) h8y)) (fun _ _ => ?_)
    refine RunL.again (t := 41) (u := .bool true) rfl (congrArg Value.bool h2) ?_
    refine RunL.still rfl rfl rfl (Still.not rfl rfl) ?_
    refine RunL.still rfl rfl rfl (Still.pickF rfl rfl rfl) ?_
    refine RunL.nil ?_
    refine Ends.then ?_
    refine RunC.cond_false rfl ?_
    refine RunC.skip ?_
    refine Ends.then ?_
    refine RunC.seq ?_
    refine RunC.region ?_
    refine RunL.still rfl rfl rfl (Still.move rfl rfl) ?_
    refine RunL.still rfl rfl rfl (Still.nilCheck rfl rfl) ?_
    refine RunL.still rfl rfl rfl (Still.fieldAddrA (off := 0) rfl rfl Tryz.underlying89 rfl Tryz.sizeOf24 rfl) ?_
    refine RunL.still rfl rfl rfl (Still.fieldAddrA (off := 1) rfl rfl Tryz.underlying24 rfl Tryz.sizeOf3 rfl) ?_
    refine RunL.still rfl rfl rfl (Still.load (v := iv d.loops) rfl rfl Tryz.isAgg3 (fun _ hs => ((DgAt.of_own (hd.sym hs) (hs.at (i := 0) rfl) (hs.own (i := 1) rfl))).c1)) ?_
    refine RunL.still rfl rfl rfl (Still.build_1 (fun x0_0 => .agg #[.slice none 0 0, x0_0]) rfl rfl (fun _ => by kernel_rfl)) ?_
    refine RunL.grows rfl rfl rfl (Grows.alloc rfl Tryz.zeroValue24) (fun b10 _ => ?_)
    refine RunL.does0 rfl rfl (Does.store rfl rfl rfl (i := 0) rfl Tryz.sizeOf24 rfl (rfl) rfl) (fun _ _ => ?_)
    refine RunL.conv (fun _ hs => hs.re 0 rfl (show _ = HL.obj b10 (.cells #[.slice none 0 0, iv d.loops] 24 (0, 0)) from rfl)) ?_
    refine RunL.nil ?_
    refine Ends.then ?_
    refine RunC.seq ?_
    refine RunC.seq ?_
    refine RunC.own_nil 62 5 ?_
    refine RunC.region ?_
    refine RunL.still rfl rfl rfl (Still.move rfl rfl) ?_
    refine RunL.still rfl rfl rfl (Still.lenV rfl rfl Tryz.underlying36 (hx.shape)) ?_
    refine RunL.still rfl rfl rfl (Still.move rfl rfl) ?_
    refine RunL.nil ?_
    refine Ends.then ?_
    refine RunC.block ?_
    refine RunC.loop2 (γ := Value × Nat) (keep := [(2, _), (6, _), (8, _), (10, _), (51, _), (52, _)]) (hkeep := [_, _, _, _]) (fun (v, i) => i ≤ xs.length) (fun (v, i) => xs.length - i) (fun (v, i) => [(53, iv i)]) (fun (v, i) => [HL.obj b10 (.cells #[v, iv d.loops] 24 (0, 0)), HL.own 62 5 v i ((rnTo d xs ys i).flatMap encCr)]) (.slice none 0 0, 0) (Nat.zero_le _) (Fr.Sub.cons rfl (Fr.Sub.nil _)) (Fr.Sub.cons rfl (Fr.Sub.cons rfl (Fr.Sub.cons rfl (Fr.Sub.cons rfl (Fr.Sub.cons rfl (Fr.Sub.cons rfl (Fr.Sub.nil _))))))) (HSub.pick 1 rfl (HSub.pick 0 rfl (HSub.pick 0 rfl (HSub.pick 0 rfl (HSub.pick 0 rfl (HSub.pick 0 rfl (HSub.nil _))))))) ?_
    rintro ⟨v, i⟩ hi
    have hi : i ≤ xs.length := hi
    refine RunC.seq ?_
    refine RunC.region ?_
    refine RunL.still rfl rfl rfl (Still.lss rfl rfl rfl) ?_
    refine RunL.nil ?_
    refine Ends.then ?_
    refine RunC.seq ?_
    refine RunC.cond rfl (fun h54 => ?_) (fun h54 => ?_)
    · have h54 := of_decide_eq_true h54
      obtain ⟨x, hxi⟩ := get_of_lt (l := xs) (i := i) (by omega)
      have hxr := (ordB_mem h1).1 (List.mem_of_getElem? hxi)
      obtain ⟨c, rfl⟩ : ∃ c : Nat, x = (c : Int) := ⟨x.toNat, by omega⟩
      have hcN : c < d.cross.length := by omega
      refine RunC.skip ?_
      refine Ends.then ?_
      refine RunC.seq ?_
      refine RunC.block ?_
      refine RunC.seq ?_
      refine RunC.region ?_
      refine RunL.still rfl rfl rfl (Still.indexV _ rfl rfl rfl Tryz.underlying36 Tryz.sizeOf3 (hx.shape) (rfl) (by omega)) ?_
      refine RunL.still rfl rfl rfl (Still.load rfl rfl Tryz.isAgg3 (fun _ hs => cells_at ((hx.sym hs).cells _) (ints_get hxi))) ?_
      refine RunL.still rfl rfl rfl (Still.assign rfl rfl) ?_
      refine RunL.nil ?_
      refine Ends.then ?_
      refine RunC.seq ?_
      refine RunC.region ?_
      refine RunL.still rfl rfl rfl (Still.move rfl rfl) ?_
      refine RunL.still rfl rfl rfl (Still.nilCheck rfl rfl) ?_
      refine RunL.still rfl rfl rfl (Still.fieldAddrA (off := 0) rfl rfl Tryz.underlying89 rfl Tryz.sizeOf24 rfl) ?_
      refine RunL.still rfl rfl rfl (Still.fieldAddrA (off := 0) rfl rfl Tryz.underlying24 rfl Tryz.sizeOf22 rfl) ?_
      refine RunL.still rfl rfl rfl (Still.load (v := .slice base d.cross.length cap) rfl rfl Tryz.isAgg22 (fun _ hs => ((DgAt.of_own (hd.sym hs) (hs.at (i := 2) rfl) (hs.own (i := 3) rfl))).c0)) ?_
      refine RunL.still rfl rfl rfl (Still.move rfl rfl) ?_
      refine RunL.still rfl rfl rfl (Still.indexSliceN rfl rfl rfl Tryz.underlying22 Tryz.sizeOf62 (hd.base (by omega)) (by omega)) ?_
      refine RunL.still rfl rfl rfl (Still.loads rfl rfl Tryz.isAgg62 Tryz.sizeOf62 (vs := encCr (crAt d c)) rfl (fun _ hs => Cells.base0 (hd.cross (crAt_get hcN)) hs)) ?_
      refine RunL.grows rfl rfl rfl (Grows.alloc rfl Tryz.zeroValue62) (fun b13 _ => ?_)
      refine RunL.does0 rfl rfl (Does.store rfl rfl rfl (i := 0) rfl Tryz.sizeOf62 rfl (rfl) rfl) (fun _ _ => ?_)
      refine RunL.conv (fun _ hs => hs.re 0 rfl (show _ = HL.obj b13 (.cells #[iv (crAt d c).a0, iv (crAt d c).a1, iv (crAt d c).a2, iv (crAt d c).a3, iv (crAt d c).s] 62 (0, 0)) from rfl)) ?_
      refine RunL.nil ?_
      refine Ends.then ?_
      refine RunC.seq ?_
      refine RunC.seq ?_
      refine RunC.region ?_
      refine RunL.still rfl rfl rfl (Still.fieldAddrL (off := 0) (off' := 0) rfl rfl Tryz.underlying62 rfl Tryz.sizeOf60 rfl) ?_
      refine RunL.still rfl rfl rfl (Still.loads rfl rfl Tryz.isAgg60 Tryz.sizeOf60 (vs := [_, _, _, _]) rfl (fun _ hs => cells_nth (hs.at (i := 0) rfl) ⟨rfl, ⟨rfl, ⟨rfl, ⟨rfl, trivial⟩⟩⟩⟩)) ?_
      refine RunL.still rfl rfl rfl (Still.move rfl rfl) ?_
      refine RunL.nil ?_
      refine Ends.then ?_
      refine RunC.block ?_
      refine RunC.loop2 (γ := Nat) (keep := [(2, _), (6, _), (8, _), (10, _), (13, _), (51, _), (52, _), (53, _), (66, _)]) (hkeep := [_, _, _, _, _, _]) (fun p => p ≤ 4) (fun p => 4 - p) (fun p => [(67, iv p)]) (fun p => [HL.obj b13 (.cells (rnArr ys (crAt d c) p) 62 (0, 0))]) 0 (Nat.zero_le _) (Fr.Sub.cons rfl (Fr.Sub.nil _)) (Fr.Sub.cons rfl (Fr.Sub.cons rfl (Fr.Sub.cons rfl (Fr.Sub.cons rfl (Fr.Sub.cons rfl (Fr.Sub.cons rfl (Fr.Sub.cons rfl (Fr.Sub.cons rfl (Fr.Sub.cons rfl (Fr.Sub.nil _)))))))))) (HSub.pick 0 rfl (HSub.pick 0 rfl (HSub.pick 0 rfl (HSub.pick 0 rfl (HSub.pick 0 rfl (HSub.pick 0 rfl (HSub.pick 0 rfl (HSub.nil _)))))))) ?_
      rintro p hp
      refine RunC.seq ?_
      refine RunC.region ?_
      refine RunL.still rfl rfl rfl (Still.lss rfl rfl rfl) ?_
      refine RunL.nil ?_
      refine Ends.then ?_
      refine RunC.seq ?_
      refine RunC.cond rfl (fun h68 => ?_) (fun h68 => ?_)
      · have h68 := of_decide_eq_true h68
        have hp4 : p < 4 := by omega
        have hpa := hS.arc hcN hp4
        obtain ⟨yv, hyv⟩ := get_of_lt (l := ys) (i := ((crAt d c).arc p).toNat) (by omega)
        have hyr := (ordB_mem h2).1 (List.mem_of_getElem? hyv)
        have hyn : yv = (newA ys ((crAt d c).arc p).toNat : Int) := by rw [newA, List.getD_eq_getElem?_getD, hyv]; simp only [Option.getD_some]; omega
        refine RunC.skip ?_
        refine Ends.then ?_
        refine RunC.seq ?_
        refine RunC.block ?_
        refine RunC.seq ?_
        refine RunC.region ?_
        refine RunL.still rfl rfl rfl (Still.move rfl rfl) ?_
        refine RunL.still rfl rfl rfl (Still.index rfl rfl rfl Tryz.underlying60 Tryz.sizeOf3 Tryz.isAgg3 ⟨by omega, by omega⟩ (row_at _ hp4)) ?_
        refine RunL.again (t := 70) (u := iv ((crAt d c).arc p)) rfl rfl ?_
        refine RunL.still rfl rfl rfl (Still.assign rfl rfl) ?_
        refine RunL.still rfl rfl rfl (Still.assign rfl rfl) ?_
        refine RunL.nil ?_
        refine Ends.then ?_
        refine RunC.region ?_
        refine RunL.still rfl rfl rfl (Still.move rfl rfl) ?_
        refine RunL.still rfl rfl rfl (Still.move rfl rfl) ?_
        refine RunL.still rfl rfl rfl (Still.move rfl rfl) ?_
        refine RunL.still rfl rfl rfl (Still.indexV ((crAt d c).arc p).toNat rfl rfl rfl Tryz.underlying36 Tryz.sizeOf3 (hy.shape) (by omega) (by omega)) ?_
        refine RunL.still rfl rfl rfl (Still.load rfl rfl Tryz.isAgg3 (fun _ hs => cells_at ((hy.sym hs).cells _) (ints_get hyv))) ?_
        refine RunL.still rfl rfl rfl (Still.fieldAddrL (off := 0) (off' := 0) rfl rfl Tryz.underlying62 rfl Tryz.sizeOf60 rfl) ?_
        refine RunL.still rfl rfl rfl (Still.indexArrNL rfl rfl rfl Tryz.underlying60 Tryz.sizeOf3 (by omega)) ?_
        refine RunL.does0 rfl rfl (Does.store1 rfl rfl rfl (i := 0) rfl Tryz.sizeOf3 rfl (Nat.ble_eq_true_of_le (show 0 + p * 1 + 1 ≤ 5 by omega))) (fun _ _ => ?_)
        refine RunL.conv (fun _ hs => hs.re 0 rfl (show _ = HL.obj b13 (.cells (rnArr ys (crAt d c) (p + 1)) 62 (0, 0)) from congrArg (fun z => HL.obj b13 (.cells z 62 (0, 0))) (rnArr_set ys (crAt d c) hp4 hyn))) ?_
        refine RunL.nil ?_
        refine Ends.block ?_
        refine Ends.then ?_
        refine RunC.region ?_
        refine RunL.still rfl rfl rfl (Still.add rfl rfl rfl (fits64 (by omega) (by omega))) ?_
        refine RunL.still rfl rfl rfl (Still.move rfl rfl) ?_
        refine RunL.nil ?_
        refine Ends.again (p + 1) ?_ ?_ (Fr.Sub.app ?_ ?_) ?_
        · show _; omega
        · show _ < _; omega
        · exact Fr.Sub.cons rfl (Fr.Sub.nil _)
        · exact Fr.Sub.cons rfl (Fr.Sub.cons rfl (Fr.Sub.cons rfl (Fr.Sub.cons rfl (Fr.Sub.cons rfl (Fr.Sub.cons rfl (Fr.Sub.cons rfl (Fr.Sub.cons rfl (Fr.Sub.cons rfl (Fr.Sub.nil _)))))))))
        · exact HSub.pick 0 rfl (HSub.pick 0 rfl (HSub.pick 0 rfl (HSub.pick 0 rfl (HSub.pick 0 rfl (HSub.pick 0 rfl (HSub.pick 0 rfl (HSub.nil _)))))))
      · have h68 := of_decide_eq_false h68
        obtain rfl : p = 4 := by omega
        refine RunC.exit ?_
        refine Ends.then_exit ?_
        refine Ends.then_exit ?_
        refine Ends.block_exit ?_
        refine Ends.then ?_
        refine RunC.region ?_
        refine RunL.still rfl rfl rfl (Still.fieldAddrL (off := 0) (off' := 0) rfl rfl Tryz.underlying24 rfl Tryz.sizeOf22 rfl) ?_
        refine RunL.still rfl rfl rfl (Still.load rfl rfl Tryz.isAgg22 (fun _ hs => cell_nth (hs.at (i := 1) rfl) rfl)) ?_
        refine RunL.still rfl rfl rfl (Still.loads rfl rfl Tryz.isAgg62 Tryz.sizeOf62 (vs := [_, _, _, _, _]) rfl (fun _ hs => cells_nth (hs.at (i := 0) rfl) ⟨rfl, ⟨rfl, ⟨rfl, ⟨rfl, ⟨rfl, trivial⟩⟩⟩⟩⟩)) ?_
        refine RunL.grows rfl rfl rfl (Grows.slice1 rfl rfl Tryz.underlying22 Tryz.sizeOf62 rfl Tryz.zeroValue62 (by decide)) (fun b82 _ => ?_)
        refine RunL.does rfl rfl rfl (Does.appendTo (n' := (i + 1)) (xs' := ((rnTo d xs ys (i + 1)).flatMap encCr)) (news := [_, _, _, _, _]) rfl rfl rfl rfl (i := 3) rfl Tryz.underlying22 (by kernel_rfl : (_ : Option _) = some (some (.agg #[.int .i64 0, .int .i64 0, .int .i64 0, .int .i64 0, .int .i64 0]), 5, 40)) rfl rfl (fun _ hs => cells_nth (hs.at (i := 0) rfl) ⟨rfl, ⟨rfl, ⟨rfl, ⟨rfl, ⟨rfl, trivial⟩⟩⟩⟩⟩) rfl rfl (by omega) (by omega) (rfl) ((by rw [rnTo_succ hxi, List.flatMap_append]; rfl))) (fun v83 hv83 => ?_)
        refine RunL.know (fun _ hs => own_oneCell (hs.own (i := 3) rfl)) (fun h1v => ?_)
        refine RunL.still rfl rfl rfl (Still.fieldAddrL (off := 0) (off' := 0) rfl rfl Tryz.underlying24 rfl Tryz.sizeOf22 rfl) ?_
        refine RunL.does0 rfl rfl (Does.store1 rfl rfl rfl (i := 2) rfl Tryz.sizeOf22 (h1v) (rfl)) (fun _ _ => ?_)
        refine RunL.conv (fun _ hs => hs.re 2 rfl (show _ = HL.obj b10 (.cells #[v83, iv d.loops] 24 (0, 0)) from rfl)) ?_
        refine RunL.nil ?_
        refine Ends.block ?_
        refine Ends.then ?_
        refine RunC.region ?_
        refine RunL.still rfl rfl rfl (Still.add rfl rfl rfl (fits64 (by omega) (by omega))) ?_
        refine RunL.still rfl rfl rfl (Still.move rfl rfl) ?_
        refine RunL.nil ?_
        refine Ends.again (v83, i + 1) ?_ ?_ (Fr.Sub.app ?_ ?_) ?_
        · show i + 1 ≤ _; omega
        · show _ - (i + 1) < _ - i; omega
        · exact Fr.Sub.cons rfl (Fr.Sub.nil _)
        · exact Fr.Sub.cons rfl (Fr.Sub.cons rfl (Fr.Sub.cons rfl (Fr.Sub.cons rfl (Fr.Sub.cons rfl (Fr.Sub.cons rfl (Fr.Sub.nil _))))))
        · exact HSub.pick 2 rfl (HSub.pick 2 rfl (HSub.pick 2 rfl (HSub.pick 2 rfl (HSub.pick 2 rfl (HSub.pick 2 rfl (HSub.nil _))))))
    · have h54 := of_decide_eq_false h54
      obtain rfl : i = xs.length := by omega
      refine RunC.exit ?_
      refine Ends.then_exit ?_
      refine Ends.then_exit ?_
      refine Ends.block_exit ?_
      refine Ends.then ?_
      refine RunC.seq ?_
      refine RunC.region ?_
      refine RunL.know (fun _ hs => own_shape (hs.own (i := 1) rfl)) (fun hsh => ?_)
      obtain ⟨xb, xc, hxv, hxb⟩ := hsh
      subst hxv
      refine RunL.still rfl rfl rfl (Still.loads rfl rfl Tryz.isAgg24 Tryz.sizeOf24 (vs := [_, _]) rfl (fun _ hs => cells_nth (hs.at (i := 0) rfl) ⟨rfl, ⟨rfl, trivial⟩⟩)) ?_
      refine RunL.does0 rfl rfl (Does.store rfl rfl rfl (i := 4) rfl Tryz.sizeOf24 rfl (rfl) rfl) (fun _ _ => ?_)
      refine RunL.conv (fun _ hs => hs.re 4 rfl (show _ = HL.obj b6 (.cells #[.slice xb xs.length xc, iv d.loops] 24 (0, 0)) from rfl)) ?_
      refine RunL.still rfl rfl rfl (Still.assign rfl rfl) ?_
      refine RunL.nil ?_
      refine Ends.then ?_
      refine RunC.ret ?_
      have hrl : (renD d xs ys).cross.length = xs.length := by rw [← rnTo_all, rnTo_len (Nat.le_refl _)]
      refine Ends.leave (.inl rfl) (fun _ _ ok => results2 Tryz.results16 (Holds.cell rfl (fun _ hs => load_cells (vs := [_, _]) Tryz.isAgg24 Tryz.sizeOf24 rfl (cells_nth (hs.at (i := 4) rfl) ⟨rfl, ⟨rfl, trivial⟩⟩))) (Holds.tmp rfl) ok) (fun w1 hs => ?_)
      refine Ret.intro (xb, xc) (by show OKB (xb, xc) (renD d xs ys).cross.length; rw [hrl]; exact hxb) (by show _ = Value.tuple #[.agg #[.slice xb (renD d xs ys).cross.length xc, iv d.loops], iv 0]; rw [hrl]) (HSub.pick 1 ?_ (HSub.nil _)) hs
      rw [ownD, hrl, ← rnTo_all]; rfl

end Go.Proofs
/-
  DERIVED: THE SHELF's CONTRACTS AT THIS DUMP, IN PLAIN WORDS (tools/lay-plain.mjs out of 'TrySortShelf.lean', which tools/lay-shelf.mjs wrote): THE SAME DECLARATIONS UNDER THE SAME NAMES: 'import', 'namespace', 'open', 'def', 'theorem' AND NOTHING ELSE: no command of the shelf's: FOR A HAND-IN. Each laying: the table of numbers ('.._ren') and one theorem, a field a fact of the dump's own or the kernel's comparison; each contract: ONE APPLICATION.
-/
namespace Go.Proofs
open Go.Shelf
def Tryz.sortL_ren : Go.Shelf.Ren := ⟨fun | 6 => 49 | 15 => 85 | 14 => 84 | 28 => 118 | 29 => 119 | 20 => 110 | 21 => 111 | 22 => 112 | 23 => 113 | 24 => 114 | 25 => 115 | 26 => 116 | 27 => 117 | 46 => 147 | 47 => 148 | 48 => 149 | 49 => 150 | 50 => 151 | 57 => 164 | n => n, fun | 22 => 82 | 24 => 83 | 25 => 85 | 3 => 3 | 39 => 140 | 0 => 0 | 53 => 178 | 55 => 180 | 4 => 4 | 46 => 172 | 45 => 171 | 50 => 168 | 5 => 5 | 9 => 9 | 66 => 203 | 70 => 207 | 76 => 222 | 77 => 223 | n => n, fun | n => n⟩
theorem Tryz.sortL : Go.Proofs.SlLaysF.n6 Tryz.prog Tryz.sortL_ren := {
  mixed := by kernel_rfl
  f6 := ⟨Tryz.f49.name, by decide, Tryz.func49.trans (congrArg some (by kernel_rfl))⟩
  f14 := ⟨Tryz.f84.name, by decide, Tryz.func84.trans (congrArg some (by kernel_rfl))⟩
  f15 := Tryz.func85.trans (congrArg some (by kernel_rfl))
  f20 := ⟨Tryz.f110.name, by decide, Tryz.func110.trans (congrArg some (by kernel_rfl))⟩
  f21 := ⟨Tryz.f111.name, by decide, Tryz.func111.trans (congrArg some (by kernel_rfl))⟩
  f22 := ⟨Tryz.f112.name, by decide, Tryz.func112.trans (congrArg some (by kernel_rfl))⟩
  f23 := ⟨Tryz.f113.name, by decide, Tryz.func113.trans (congrArg some (by kernel_rfl))⟩
  f24 := ⟨Tryz.f114.name, by decide, Tryz.func114.trans (congrArg some (by kernel_rfl))⟩
  f25 := ⟨Tryz.f115.name, by decide, Tryz.func115.trans (congrArg some (by kernel_rfl))⟩
  f26 := ⟨Tryz.f116.name, by decide, Tryz.func116.trans (congrArg some (by kernel_rfl))⟩
  f27 := ⟨Tryz.f117.name, by decide, Tryz.func117.trans (congrArg some (by kernel_rfl))⟩
  f28 := Tryz.func118.trans (congrArg some (by kernel_rfl))
  f29 := Tryz.func119.trans (congrArg some (by kernel_rfl))
  f46 := ⟨Tryz.f147.name, by decide, Tryz.func147.trans (congrArg some (by kernel_rfl))⟩
  f47 := Tryz.func148.trans (congrArg some (by kernel_rfl))
  f48 := Tryz.func149.trans (congrArg some (by kernel_rfl))
  f49 := ⟨Tryz.f150.name, by decide, Tryz.func150.trans (congrArg some (by kernel_rfl))⟩
  f50 := ⟨Tryz.f151.name, by decide, Tryz.func151.trans (congrArg some (by kernel_rfl))⟩
  f57 := ⟨Tryz.f164.name, by decide, Tryz.func164.trans (congrArg some (by kernel_rfl))⟩
  t0 := Tryz.underlying0
  a0 := Tryz.isAgg0
  z0 := Tryz.sizeOf0
  v0 := Tryz.zeroValue0
  t3 := Tryz.underlying3
  a3 := Tryz.isAgg3
  z3 := Tryz.sizeOf3
  v3 := Tryz.zeroValue3
  t4 := Tryz.underlying4
  a4 := Tryz.isAgg4
  z4 := Tryz.sizeOf4
  v4 := Tryz.zeroValue4
  t5 := Tryz.underlying5
  a5 := Tryz.isAgg5
  z5 := Tryz.sizeOf5
  v5 := Tryz.zeroValue5
  t9 := Tryz.underlying9
  a9 := Tryz.isAgg9
  z9 := Tryz.sizeOf9
  v9 := Tryz.zeroValue9
  t22 := Tryz.underlying82
  a22 := Tryz.isAgg82
  z22 := Tryz.sizeOf82
  v22 := Tryz.zeroValue82
  a24 := Tryz.isAgg83
  z24 := Tryz.sizeOf83
  t25 := Tryz.underlying85
  a25 := Tryz.isAgg85
  z25 := Tryz.sizeOf85
  v25 := Tryz.zeroValue85
  t39 := Tryz.underlying140
  a39 := Tryz.isAgg140
  z39 := Tryz.sizeOf140
  v39 := Tryz.zeroValue140
  t45 := Tryz.underlying171
  a45 := Tryz.isAgg171
  z45 := Tryz.sizeOf171
  v45 := Tryz.zeroValue171
  t46 := Tryz.underlying172
  a46 := Tryz.isAgg172
  z46 := Tryz.sizeOf172
  v46 := Tryz.zeroValue172
  t50 := Tryz.underlying168
  a50 := Tryz.isAgg168
  z50 := Tryz.sizeOf168
  v50 := Tryz.zeroValue168
  t53 := Tryz.underlying178
  a53 := Tryz.isAgg178
  z53 := Tryz.sizeOf178
  v53 := Tryz.zeroValue178
  t55 := Tryz.underlying180
  a55 := Tryz.isAgg180
  z55 := Tryz.sizeOf180
  v55 := Tryz.zeroValue180
  t66 := Tryz.underlying203
  a66 := Tryz.isAgg203
  z66 := Tryz.sizeOf203
  v66 := Tryz.zeroValue203
  t70 := Tryz.underlying207
  a70 := Tryz.isAgg207
  z70 := Tryz.sizeOf207
  v70 := Tryz.zeroValue207
  t76 := Tryz.underlying222
  a76 := Tryz.isAgg222
  z76 := Tryz.sizeOf222
  v76 := Tryz.zeroValue222
  t77 := Tryz.underlying223
  a77 := Tryz.isAgg223
  z77 := Tryz.sizeOf223
  v77 := Tryz.zeroValue223 }
end Go.Proofs
