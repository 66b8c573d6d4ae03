/- The text of a diagram of small numbers, chapter 22. -/
import Derived.Test.YtbodmnijpdffaaaDoorPc
import Derived.Test.YtbodmnijpdffaaaDoorDh
import Derived.Test.YtbodmnijpdffaaaDoorSh
import Derived.Test.YtbodmnijpdffaaaDoorProg
import Derived.KernelRfl
namespace Go.Proofs
open Go Go.V
set_option maxRecDepth 20000
theorem sym_below {w w' : World} (h : RowKit.Below w.heap.size w w') : Sym w Nil [] w' := ⟨Old.of_below h, fun h hh => (by cases hh), fun h hh => (by cases hh), List.Pairwise.nil⟩
theorem tx_Itoa (n : Int) (w : World) (h0 : 0 ≤ n) (h1 : n < 100) : Gives Tryd.prog 61 #[iv n] w Nil (fun _ : Unit => True) (fun _ => .string (numS n)) (fun _ => []) := by
  obtain ⟨i, rfl⟩ : ∃ i : Nat, n = (i : Int) := ⟨n.toNat, by omega⟩
  refine Calls.mono (Tryd.strconv_Itoa_small i (by omega) w) ?_
  rintro e w' ⟨rfl, rfl⟩
  exact ⟨(), trivial, rfl, Sym.nil _ _⟩
theorem tx_Join (g c n : Nat) (xs : List ByteArray) (w : World) (hn : xs.length = n) (hc : Cells w ⟨g, 0, none⟩ (strs xs)) (hg : g < w.heap.size) (hcap : xs.length ≤ c) (h200 : xs.length ≤ 200) (hs : ∀ s ∈ xs, s.size ≤ 13) :
    Gives Tryd.prog 62 #[.slice (some ⟨g, 0, none⟩) n c, .string semiS] w Nil (fun _ : Unit => True) (fun _ => .string (joinS xs)) (fun _ => []) := by
  subst hn
  have hl := join_len hs
  refine Calls.mono (Tryd.strings_Join g 0 c xs semiS w (fun j x hx => ?_) hg (by omega) hcap (by omega)) ?_
  · have := hc j (.string x) (by simp [strs, hx])
    rw [show Addr.add ⟨g, 0, none⟩ j = ⟨g, 0 + j, none⟩ from by unfold Addr.add; split <;> simp_all] at this
    exact this
  · rintro e w' ⟨rfl, hb⟩
    exact ⟨(), trivial, rfl, sym_below hb⟩
theorem own_open {w : World} {e k n : Nat} {v : Value} {xs : List Value} (h : w.ownsRow 0 e k v n xs) (hn : 0 < n) : ∃ g c, v = .slice (some ⟨g, 0, none⟩) n c ∧ n ≤ c := by
  rcases h.2 with ⟨_, h2⟩ | ⟨g, cap, cur, hv, hg, hb, h1, h2, _⟩
  · omega
  · exact ⟨g, cap, hv, h1⟩

theorem dg_Text_ok (base : Option Addr) (A : Addr) (cap : Nat) (d : Dia) (w : World) (hd : DiaAt w base A d) (hc : checkI d = 0) (hsm : ∀ x ∈ d.cross, SmallCr x) (hsl : d.loops < 100) : Gives Tryd.prog 39 #[diaV base cap d] w Nil (fun _ : Unit => True) (fun _ => .tuple #[.string (textOf d), iv 0]) (fun _ => []) := by
  obtain ⟨hS, hPl⟩ := checkI_ok.1 hc
  have h200 := hS.1
  have hlo := hS.2.1
  have hlo2 := hS.2.2.1
  refine fn_of_run (S := Nil) (args := [diaV base cap d]) (n := 59) (L := []) Tryd.func39 rfl Tryd.ntmps39 (Nat.le_of_ble_eq_true rfl) (Sym.nil _ _) ?_
  change RunC _ _ _ [(0, _)] _
  refine RunC.seq ?_
  refine RunC.region ?_
  refine RunL.grows rfl rfl rfl (Grows.box rfl rfl) (fun b1 _ => ?_)
  refine RunL.still rfl rfl rfl (Still.assign rfl rfl) ?_
  refine RunL.still rfl rfl rfl (Still.assign rfl rfl) ?_
  refine RunL.nil ?_
  refine Ends.then ?_
  refine RunC.seq ?_
  refine RunC.seq ?_
  refine RunC.region ?_
  refine RunL.still rfl rfl rfl (Still.loads rfl rfl Tryd.isAgg24 Tryd.sizeOf24 (vs := [_, _]) rfl (fun _ hs => cells_nth (hs.at (i := 0) rfl) ⟨rfl, ⟨rfl, trivial⟩⟩)) ?_
  refine RunL.grows rfl rfl rfl (Grows.call (vs := #[_]) rfl rfl Tryd.call35 (fun w hs => dg_enter_ok base A cap d w (hd.sym hs) hc)) (fun ⟨eb, av⟩ hav => ?_)
  refine RunL.still rfl rfl rfl (Still.move rfl rfl) ?_
  refine RunL.still rfl rfl rfl (Still.extractN rfl rfl rfl) ?_
  refine RunL.still rfl rfl rfl (Still.extractN rfl rfl rfl) ?_
  refine RunL.still rfl rfl rfl (Still.assign rfl rfl) ?_
  refine RunL.still rfl rfl rfl (Still.assign rfl rfl) ?_
  refine RunL.nil ?_
  refine Ends.then ?_
  refine RunC.seq ?_
  refine RunC.region ?_
  refine RunL.still rfl rfl rfl (Still.move rfl rfl) ?_
  refine RunL.still rfl rfl rfl (Still.neq rfl rfl rfl) ?_
  refine RunL.nil ?_
  refine Ends.then ?_
  refine RunC.cond rfl (fun h18 => ?_) (fun h18 => ?_)
  · have h18 := of_decide_eq_true h18
    exact absurd rfl h18
  · have h18 := of_decide_eq_false h18
    refine RunC.skip ?_
    refine Ends.then ?_
    refine RunC.seq ?_
    refine RunC.region ?_
    refine RunL.still rfl rfl rfl (Still.assign rfl rfl) ?_
    refine RunL.own_nil 9 1 ?_
    refine RunL.nil ?_
    refine Ends.then ?_
    refine RunC.seq ?_
    refine RunC.seq ?_
    refine RunC.region ?_
    refine RunL.still rfl rfl rfl (Still.fieldAddrL (off := 0) (off' := 0) rfl rfl Tryd.underlying24 rfl Tryd.sizeOf22 rfl) ?_
    refine RunL.still rfl rfl rfl (Still.load rfl rfl Tryd.isAgg22 (fun _ hs => cell_nth (hs.at (i := 3) rfl) rfl)) ?_
    refine RunL.still rfl rfl rfl (Still.lenSlice rfl rfl Tryd.underlying22) ?_
    refine RunL.still rfl rfl rfl (Still.move rfl rfl) ?_
    refine RunL.nil ?_
    refine Ends.then ?_
    refine RunC.block ?_
    refine RunC.loop2 (γ := Value × Nat) (keep := [(1, _), (21, _), (22, _)]) (hkeep := [_, _, _]) (fun (v, c) => c ≤ d.cross.length) (fun (v, c) => d.cross.length - c) (fun (v, c) => [(6, v), (23, iv c)]) (fun (v, c) => [HL.own 9 1 v c (strs ((d.cross.take c).map crS))]) (.slice none 0 0, 0) (by omega) (Fr.Sub.cons rfl (Fr.Sub.cons rfl (Fr.Sub.nil _))) (Fr.Sub.cons rfl (Fr.Sub.cons rfl (Fr.Sub.cons rfl (Fr.Sub.nil _)))) (HSub.pick 0 rfl (HSub.pick 0 rfl (HSub.pick 0 rfl (HSub.pick 0 rfl (HSub.nil _))))) ?_
    rintro ⟨v, c⟩ hcl
    refine RunC.seq ?_
    refine RunC.region ?_
    refine RunL.still rfl rfl rfl (Still.lss rfl rfl rfl) ?_
    refine RunL.nil ?_
    refine Ends.then ?_
    refine RunC.seq ?_
    refine RunC.cond rfl (fun h24 => ?_) (fun h24 => ?_)
    · have h24 := of_decide_eq_true h24
      have hcl : c ≤ d.cross.length := hcl
      obtain ⟨x, hx⟩ := get_of_lt (l := d.cross) (i := c) (by omega)
      have hxp := hsm x (List.mem_of_getElem? hx)
      refine RunC.skip ?_
      refine Ends.then ?_
      refine RunC.seq ?_
      refine RunC.block ?_
      refine RunC.seq ?_
      refine RunC.region ?_
      refine RunL.still rfl rfl rfl (Still.indexSliceN rfl rfl rfl Tryd.underlying22 Tryd.sizeOf69 (hd.base (by omega)) (by omega)) ?_
      refine RunL.still rfl rfl rfl (Still.loads rfl rfl Tryd.isAgg69 Tryd.sizeOf69 (vs := encCr x) rfl (fun _ hs => Cells.base0 (hd.cross hx) hs)) ?_
      refine RunL.grows rfl rfl rfl (Grows.alloc rfl Tryd.zeroValue69) (fun b8 _ => ?_)
      refine RunL.does0 rfl rfl (Does.store rfl rfl rfl (i := 0) rfl Tryd.sizeOf69 rfl (rfl) rfl) (fun _ _ => ?_)
      refine RunL.nil ?_
      refine Ends.then ?_
      refine RunC.seq ?_
      refine RunC.region ?_
      refine RunL.still rfl rfl rfl (Still.assign rfl rfl) ?_
      refine RunL.nil ?_
      refine Ends.then ?_
      refine RunC.seq ?_
      refine RunC.seq ?_
      refine RunC.region ?_
      refine RunL.still rfl rfl rfl (Still.fieldAddrL (off := 0) (off' := 4) rfl rfl Tryd.underlying69 rfl Tryd.sizeOf3 rfl) ?_
      refine RunL.still rfl rfl rfl (Still.load rfl rfl Tryd.isAgg3 (fun _ hs => cell_nth (hs.at (i := 0) rfl) rfl)) ?_
      refine RunL.still rfl rfl rfl (Still.lss rfl rfl rfl) ?_
      refine RunL.nil ?_
      refine Ends.then ?_
      refine RunC.cond rfl (fun h29 => ?_) (fun h29 => ?_)
      · have h29 := of_decide_eq_true h29
        refine RunC.region ?_
        refine RunL.still rfl rfl rfl (Still.assign rfl rfl) ?_
        refine RunL.nil ?_
        refine Ends.then ?_
        refine RunC.seq ?_
        refine RunC.seq ?_
        refine RunC.region ?_
        refine RunL.still rfl rfl rfl (Still.fieldAddrL (off := 0) (off' := 0) rfl rfl Tryd.underlying69 rfl Tryd.sizeOf67 rfl) ?_
        refine RunL.still rfl rfl rfl (Still.loads rfl rfl Tryd.isAgg67 Tryd.sizeOf67 (vs := [_, _, _, _]) rfl (fun _ hs => cells_nth (hs.at (i := 0) rfl) ⟨rfl, ⟨rfl, ⟨rfl, ⟨rfl, trivial⟩⟩⟩⟩)) ?_
        refine RunL.still rfl rfl rfl (Still.move rfl rfl) ?_
        refine RunL.nil ?_
        refine Ends.then ?_
        refine RunC.block ?_
        refine RunC.loop2 (γ := Nat) (keep := [(1, _), (6, _), (21, _), (22, _), (23, _), (31, _)]) (hkeep := [_, _, _, _, _]) (fun p => p ≤ 4) (fun p => 4 - p) (fun p => [(9, .string (crTo x p)), (32, iv p)]) (fun p => []) 0 (by omega) (Fr.Sub.cons (by first | (rw [crTo, sgnS, if_pos h29]; rfl) | (rw [crTo, sgnS, if_neg h29]; rfl)) (Fr.Sub.cons rfl (Fr.Sub.nil _))) (Fr.Sub.cons rfl (Fr.Sub.cons rfl (Fr.Sub.cons rfl (Fr.Sub.cons rfl (Fr.Sub.cons rfl (Fr.Sub.cons rfl (Fr.Sub.nil _))))))) (HSub.pick 0 rfl (HSub.pick 0 rfl (HSub.pick 0 rfl (HSub.pick 0 rfl (HSub.pick 0 rfl (HSub.nil _)))))) ?_
        rintro p hp
        refine RunC.seq ?_
        refine RunC.region ?_
        refine RunL.still rfl rfl rfl (Still.lss rfl rfl rfl) ?_
        refine RunL.nil ?_
        refine Ends.then ?_
        refine RunC.seq ?_
        refine RunC.cond rfl (fun h33 => ?_) (fun h33 => ?_)
        · have h33 := of_decide_eq_true h33
          have hp4 : p < 4 := by omega
          refine RunC.skip ?_
          refine Ends.then ?_
          refine RunC.seq ?_
          refine RunC.block ?_
          refine RunC.seq ?_
          refine RunC.region ?_
          refine RunL.still rfl rfl rfl (Still.index rfl rfl rfl Tryd.underlying67 Tryd.sizeOf3 Tryd.isAgg3 ⟨by omega, by omega⟩ (arc_index hp4)) ?_
          refine RunL.still rfl rfl rfl (Still.assign rfl rfl) ?_
          refine RunL.nil ?_
          refine Ends.then ?_
          refine RunC.region ?_
          refine RunL.still rfl rfl rfl (Still.move rfl rfl) ?_
          refine RunL.still rfl rfl rfl (Still.move rfl rfl) ?_
          refine RunL.grows rfl rfl rfl (Grows.call (vs := #[_]) rfl rfl Tryd.call61 (fun w hs => tx_Itoa (x.arc p) w (hxp p hp4).1 (hxp p hp4).2)) (fun _ _ => ?_)
          refine RunL.still rfl rfl rfl (Still.cat rfl rfl rfl (by have := numS_size (hxp p hp4).1 (hxp p hp4).2; show 1 + (numS (x.arc p)).size ≤ _; omega)) ?_
          refine RunL.still rfl rfl rfl (Still.cat rfl rfl rfl (by have h1 := numS_size (hxp p hp4).1 (hxp p hp4).2; have h2 := crTo_size hxp p hp; rw [ByteArray.size_append]; show _ + (1 + (numS (x.arc p)).size) ≤ _; omega)) ?_
          refine RunL.still rfl rfl rfl (Still.assign rfl rfl) ?_
          refine RunL.nil ?_
          refine Ends.block ?_
          refine Ends.then ?_
          refine RunC.region ?_
          refine RunL.still rfl rfl rfl (Still.add rfl rfl rfl (fits64 (by omega) (by omega))) ?_
          refine RunL.still rfl rfl rfl (Still.move rfl rfl) ?_
          refine RunL.nil ?_
          refine Ends.again (p + 1) ?_ ?_ (Fr.Sub.app ?_ ?_) ?_
          · show _; omega
          · show _ < _; omega
          · exact Fr.Sub.cons rfl (Fr.Sub.cons rfl (Fr.Sub.nil _))
          · exact Fr.Sub.cons rfl (Fr.Sub.cons rfl (Fr.Sub.cons rfl (Fr.Sub.cons rfl (Fr.Sub.cons rfl (Fr.Sub.cons rfl (Fr.Sub.nil _))))))
          · exact HSub.pick 0 rfl (HSub.pick 0 rfl (HSub.pick 0 rfl (HSub.pick 0 rfl (HSub.pick 0 rfl (HSub.nil _)))))
        · have h33 := of_decide_eq_false h33
          refine RunC.exit ?_
          refine Ends.then_exit ?_
          refine Ends.then_exit ?_
          refine Ends.block_exit ?_
          refine Ends.then ?_
          refine RunC.region ?_
          refine RunL.still rfl rfl rfl (Still.move rfl rfl) ?_
          refine RunL.still rfl rfl rfl (Still.move rfl rfl) ?_
          refine RunL.grows rfl rfl rfl (Grows.slice1 rfl rfl Tryd.underlying97 Tryd.sizeOf9 rfl Tryd.zeroValue9 (by decide)) (fun b43 _ => ?_)
          refine RunL.does rfl rfl rfl (Does.appendTo (n' := (c + 1)) (xs' := (strs ((d.cross.take c).map crS ++ [crTo x p]))) (news := [_]) rfl rfl rfl rfl (i := 2) rfl Tryd.underlying97 (by kernel_rfl : (_ : Option _) = some (some (.string ⟨#[]⟩), 1, 16)) rfl rfl (fun _ hs => cells_nth (hs.at (i := 0) rfl) ⟨rfl, trivial⟩) rfl rfl (by omega) (by omega) (rfl) (strs_snoc _ _)) (fun v44 hv44 => ?_)
          refine RunL.still rfl rfl rfl (Still.assign rfl rfl) ?_
          refine RunL.nil ?_
          refine Ends.block ?_
          refine Ends.then ?_
          refine RunC.region ?_
          refine RunL.still rfl rfl rfl (Still.add rfl rfl rfl (fits64 (by omega) (by omega))) ?_
          refine RunL.still rfl rfl rfl (Still.move rfl rfl) ?_
          refine RunL.nil ?_
          obtain rfl : p = 4 := by omega
          refine Ends.again (v44, c + 1) ?_ ?_ (Fr.Sub.app ?_ ?_) ?_
          · show c + 1 ≤ _; omega
          · show _ - (c + 1) < _ - c; omega
          · exact Fr.Sub.cons rfl (Fr.Sub.cons rfl (Fr.Sub.nil _))
          · exact Fr.Sub.cons rfl (Fr.Sub.cons rfl (Fr.Sub.cons rfl (Fr.Sub.nil _)))
          · exact HSub.pick 2 (by rw [List.take_add_one, hx]; simp only [Option.toList_some, List.map_append, List.map_cons, List.map_nil]; rfl) (HSub.pick 2 rfl (HSub.pick 2 rfl (HSub.pick 2 rfl (HSub.nil _))))
      · have h29 := of_decide_eq_false h29
        refine RunC.skip ?_
        refine Ends.then ?_
        refine RunC.seq ?_
        refine RunC.seq ?_
        refine RunC.region ?_
        refine RunL.still rfl rfl rfl (Still.fieldAddrL (off := 0) (off' := 0) rfl rfl Tryd.underlying69 rfl Tryd.sizeOf67 rfl) ?_
        refine RunL.still rfl rfl rfl (Still.loads rfl rfl Tryd.isAgg67 Tryd.sizeOf67 (vs := [_, _, _, _]) rfl (fun _ hs => cells_nth (hs.at (i := 0) rfl) ⟨rfl, ⟨rfl, ⟨rfl, ⟨rfl, trivial⟩⟩⟩⟩)) ?_
        refine RunL.still rfl rfl rfl (Still.move rfl rfl) ?_
        refine RunL.nil ?_
        refine Ends.then ?_
        refine RunC.block ?_
        refine RunC.loop2 (γ := Nat) (keep := [(1, _), (6, _), (21, _), (22, _), (23, _), (31, _)]) (hkeep := [_, _, _, _, _]) (fun p => p ≤ 4) (fun p => 4 - p) (fun p => [(9, .string (crTo x p)), (32, iv p)]) (fun p => []) 0 (by omega) (Fr.Sub.cons (by first | (rw [crTo, sgnS, if_pos h29]; rfl) | (rw [crTo, sgnS, if_neg h29]; rfl)) (Fr.Sub.cons rfl (Fr.Sub.nil _))) (Fr.Sub.cons rfl (Fr.Sub.cons rfl (Fr.Sub.cons rfl (Fr.Sub.cons rfl (Fr.Sub.cons rfl (Fr.Sub.cons rfl (Fr.Sub.nil _))))))) (HSub.pick 0 rfl (HSub.pick 0 rfl (HSub.pick 0 rfl (HSub.pick 0 rfl (HSub.pick 0 rfl (HSub.nil _)))))) ?_
        rintro p hp
        refine RunC.seq ?_
        refine RunC.region ?_
        refine RunL.still rfl rfl rfl (Still.lss rfl rfl rfl) ?_
        refine RunL.nil ?_
        refine Ends.then ?_
        refine RunC.seq ?_
        refine RunC.cond rfl (fun h33 => ?_) (fun h33 => ?_)
        · have h33 := of_decide_eq_true h33
          have hp4 : p < 4 := by omega
          refine RunC.skip ?_
          refine Ends.then ?_
          refine RunC.seq ?_
          refine RunC.block ?_
          refine RunC.seq ?_
          refine RunC.region ?_
          refine RunL.still rfl rfl rfl (Still.index rfl rfl rfl Tryd.underlying67 Tryd.sizeOf3 Tryd.isAgg3 ⟨by omega, by omega⟩ (arc_index hp4)) ?_
          refine RunL.still rfl rfl rfl (Still.assign rfl rfl) ?_
          refine RunL.nil ?_
          refine Ends.then ?_
          refine RunC.region ?_
          refine RunL.still rfl rfl rfl (Still.move rfl rfl) ?_
          refine RunL.still rfl rfl rfl (Still.move rfl rfl) ?_
          refine RunL.grows rfl rfl rfl (Grows.call (vs := #[_]) rfl rfl Tryd.call61 (fun w hs => tx_Itoa (x.arc p) w (hxp p hp4).1 (hxp p hp4).2)) (fun _ _ => ?_)
          refine RunL.still rfl rfl rfl (Still.cat rfl rfl rfl (by have := numS_size (hxp p hp4).1 (hxp p hp4).2; show 1 + (numS (x.arc p)).size ≤ _; omega)) ?_
          refine RunL.still rfl rfl rfl (Still.cat rfl rfl rfl (by have h1 := numS_size (hxp p hp4).1 (hxp p hp4).2; have h2 := crTo_size hxp p hp; rw [ByteArray.size_append]; show _ + (1 + (numS (x.arc p)).size) ≤ _; omega)) ?_
          refine RunL.still rfl rfl rfl (Still.assign rfl rfl) ?_
          refine RunL.nil ?_
          refine Ends.block ?_
          refine Ends.then ?_
          refine RunC.region ?_
          refine RunL.still rfl rfl rfl (Still.add rfl rfl rfl (fits64 (by omega) (by omega))) ?_
          refine RunL.still rfl rfl rfl (Still.move rfl rfl) ?_
          refine RunL.nil ?_
          refine Ends.again (p + 1) ?_ ?_ (Fr.Sub.app ?_ ?_) ?_
          · show _; omega
          · show _ < _; omega
          · exact Fr.Sub.cons rfl (Fr.Sub.cons rfl (Fr.Sub.nil _))
          · exact Fr.Sub.cons rfl (Fr.Sub.cons rfl (Fr.Sub.cons rfl (Fr.Sub.cons rfl (Fr.Sub.cons rfl (Fr.Sub.cons rfl (Fr.Sub.nil _))))))
          · exact HSub.pick 0 rfl (HSub.pick 0 rfl (HSub.pick 0 rfl (HSub.pick 0 rfl (HSub.pick 0 rfl (HSub.nil _)))))
        · have h33 := of_decide_eq_false h33
          refine RunC.exit ?_
          refine Ends.then_exit ?_
          refine Ends.then_exit ?_
          refine Ends.block_exit ?_
          refine Ends.then ?_
          refine RunC.region ?_
          refine RunL.still rfl rfl rfl (Still.move rfl rfl) ?_
          refine RunL.still rfl rfl rfl (Still.move rfl rfl) ?_
          refine RunL.grows rfl rfl rfl (Grows.slice1 rfl rfl Tryd.underlying97 Tryd.sizeOf9 rfl Tryd.zeroValue9 (by decide)) (fun b43 _ => ?_)
          refine RunL.does rfl rfl rfl (Does.appendTo (n' := (c + 1)) (xs' := (strs ((d.cross.take c).map crS ++ [crTo x p]))) (news := [_]) rfl rfl rfl rfl (i := 2) rfl Tryd.underlying97 (by kernel_rfl : (_ : Option _) = some (some (.string ⟨#[]⟩), 1, 16)) rfl rfl (fun _ hs => cells_nth (hs.at (i := 0) rfl) ⟨rfl, trivial⟩) rfl rfl (by omega) (by omega) (rfl) (strs_snoc _ _)) (fun v44 hv44 => ?_)
          refine RunL.still rfl rfl rfl (Still.assign rfl rfl) ?_
          refine RunL.nil ?_
          refine Ends.block ?_
          refine Ends.then ?_
          refine RunC.region ?_
          refine RunL.still rfl rfl rfl (Still.add rfl rfl rfl (fits64 (by omega) (by omega))) ?_
          refine RunL.still rfl rfl rfl (Still.move rfl rfl) ?_
          refine RunL.nil ?_
          obtain rfl : p = 4 := by omega
          refine Ends.again (v44, c + 1) ?_ ?_ (Fr.Sub.app ?_ ?_) ?_
          · show c + 1 ≤ _; omega
          · show _ - (c + 1) < _ - c; omega
          · exact Fr.Sub.cons rfl (Fr.Sub.cons rfl (Fr.Sub.nil _))
          · exact Fr.Sub.cons rfl (Fr.Sub.cons rfl (Fr.Sub.cons rfl (Fr.Sub.nil _)))
          · exact HSub.pick 2 (by rw [List.take_add_one, hx]; simp only [Option.toList_some, List.map_append, List.map_cons, List.map_nil]; rfl) (HSub.pick 2 rfl (HSub.pick 2 rfl (HSub.pick 2 rfl (HSub.nil _))))
    · have h24 := of_decide_eq_false h24
      have hcl : c ≤ d.cross.length := hcl
      obtain rfl : c = d.cross.length := by omega
      refine RunC.exit ?_
      refine Ends.then_exit ?_
      refine Ends.then_exit ?_
      refine Ends.block_exit ?_
      refine Ends.then ?_
      refine RunC.seq ?_
      refine RunC.seq ?_
      refine RunC.region ?_
      refine RunL.still rfl rfl rfl (Still.move rfl rfl) ?_
      refine RunL.still rfl rfl rfl (Still.lenOwn rfl rfl Tryd.underlying97 (fun _ hs => hs.own (i := 0) rfl)) ?_
      refine RunL.still rfl rfl rfl (Still.eql rfl rfl rfl) ?_
      refine RunL.nil ?_
      refine Ends.then ?_
      refine RunC.cond rfl (fun h48 => ?_) (fun h48 => ?_)
      · have h48 := of_decide_eq_true h48
        refine RunC.seq ?_
        refine RunC.region ?_
        refine RunL.still rfl rfl rfl (Still.fieldAddrL (off := 0) (off' := 1) rfl rfl Tryd.underlying24 rfl Tryd.sizeOf3 rfl) ?_
        refine RunL.still rfl rfl rfl (Still.load rfl rfl Tryd.isAgg3 (fun _ hs => cell_nth (hs.at (i := 3) rfl) rfl)) ?_
        refine RunL.grows rfl rfl rfl (Grows.call (vs := #[_]) rfl rfl Tryd.call61 (fun w hs => tx_Itoa d.loops w hlo hsl)) (fun _ _ => ?_)
        refine RunL.still rfl rfl rfl (Still.assign rfl rfl) ?_
        refine RunL.still rfl rfl rfl (Still.assign rfl rfl) ?_
        refine RunL.nil ?_
        refine Ends.then ?_
        refine RunC.ret ?_
        refine Ends.then_ret ?_
        refine Ends.leave (.inl rfl) (fun _ _ ok => results2 Tryd.results39 (Holds.tmp rfl) (Holds.tmp rfl) ok) (fun w1 hs => ?_)
        exact Ret.intro () trivial (by rw [textOf, if_pos (by omega)]) (HSub.nil _) hs
      · have h48 := of_decide_eq_false h48
        refine RunC.know (fun _ hs => own_open (hs.own (i := 0) rfl) (by omega)) (fun ho => ?_)
        obtain ⟨g, oc, hvv, hoc⟩ := ho
        subst hvv
        refine RunC.conv (fun _ hs => hs.re 0 rfl (show _ = HL.own 9 1 (.slice (some ⟨g, 0, none⟩) d.cross.length oc) d.cross.length (strs (d.cross.map crS)) by rw [List.take_length])) ?_
        refine RunC.skip ?_
        refine Ends.then ?_
        refine RunC.seq ?_
        refine RunC.draw 8 (.still 0 (.still 3 (.still 4 (.one 1 (.still 2 (.one 5 (.still 6 (.still 7 .done)))))))) (by kernel_rfl) (by kernel_rfl) ?_
        refine RunG.still rfl rfl rfl rfl (Still.move rfl rfl) ?_
        refine RunG.still rfl rfl rfl rfl (Still.fieldAddrL (off := 0) (off' := 1) rfl rfl Tryd.underlying24 rfl Tryd.sizeOf3 rfl) ?_
        refine RunG.still rfl rfl rfl rfl (Still.load rfl rfl Tryd.isAgg3 (fun _ hs => cell_nth (hs.at (i := 3) rfl) rfl)) ?_
        refine RunG.grows rfl rfl rfl rfl (Grows.call (vs := #[_, _]) rfl rfl Tryd.call62 (fun w hs => tx_Join g oc _ (d.cross.map crS) w (by simp) (own_all (hs.own (i := 0) rfl)) (hs.supp _ (List.mem_of_getElem? (i := 0) rfl) g rfl).1 (by rw [List.length_map]; omega) (by rw [List.length_map]; omega) (crS_take hsm))) (fun _ _ => ?_)
        refine RunG.still rfl rfl rfl rfl (Still.cat rfl rfl rfl (by have := joinS_size (crS_take hsm); rw [List.length_map] at this; show (joinS _).size + 3 ≤ _; omega)) ?_
        refine RunG.grows rfl rfl rfl rfl (Grows.call (vs := #[_]) rfl rfl Tryd.call61 (fun w hs => tx_Itoa d.loops w hlo hsl)) (fun _ _ => ?_)
        refine RunG.still rfl rfl rfl rfl (Still.cat rfl rfl rfl (by have := joinS_size (crS_take hsm); rw [List.length_map] at this; have h2 := numS_size hlo hsl; rw [ByteArray.size_append]; show (joinS _).size + 3 + _ ≤ _; omega)) ?_
        refine RunG.still rfl rfl rfl rfl (Still.assign rfl rfl) ?_
        refine RunG.done ?_
        show RunL _ _ _ [_] _ _
        refine RunL.still rfl rfl rfl (Still.assign rfl rfl) ?_
        refine RunL.nil ?_
        refine Ends.then ?_
        refine RunC.ret ?_
        refine Ends.leave (.inl rfl) (fun _ _ ok => results2 Tryd.results39 (Holds.tmp rfl) (Holds.tmp rfl) ok) (fun w2 hs => ?_)
        exact Ret.intro () trivial (by rw [textOf, if_neg (by omega)]; rfl) (HSub.nil _) hs

theorem dg_Text_bad (base : Option Addr) (A : Addr) (cap : Nat) (d : Dia) (w : World) (hd : DiaAt w base A d) (hc : checkI d ≠ 0) : Gives Tryd.prog 39 #[diaV base cap d] w Nil (fun _ : Unit => True) (fun _ => .tuple #[.string ⟨#[]⟩, iv (checkI d)]) (fun _ => []) := by
  refine fn_of_run (S := Nil) (args := [diaV base cap d]) (n := 59) (L := []) Tryd.func39 rfl Tryd.ntmps39 (Nat.le_of_ble_eq_true rfl) (Sym.nil _ _) ?_
  change RunC _ _ _ [(0, _)] _
  refine RunC.seq ?_
  refine RunC.region ?_
  refine RunL.grows rfl rfl rfl (Grows.box rfl rfl) (fun b1 _ => ?_)
  refine RunL.still rfl rfl rfl (Still.assign rfl rfl) ?_
  refine RunL.still rfl rfl rfl (Still.assign rfl rfl) ?_
  refine RunL.nil ?_
  refine Ends.then ?_
  refine RunC.seq ?_
  refine RunC.seq ?_
  refine RunC.region ?_
  refine RunL.still rfl rfl rfl (Still.loads rfl rfl Tryd.isAgg24 Tryd.sizeOf24 (vs := [_, _]) rfl (fun _ hs => cells_nth (hs.at (i := 0) rfl) ⟨rfl, ⟨rfl, trivial⟩⟩)) ?_
  refine RunL.grows rfl rfl rfl (Grows.call (vs := #[_]) rfl rfl Tryd.call35 (fun w hs => dg_enter_bad base A cap d w (hd.sym hs) hc)) (fun _ _ => ?_)
  refine RunL.still rfl rfl rfl (Still.move rfl rfl) ?_
  refine RunL.still rfl rfl rfl (Still.extractN rfl rfl rfl) ?_
  refine RunL.still rfl rfl rfl (Still.extractN rfl rfl rfl) ?_
  refine RunL.still rfl rfl rfl (Still.assign rfl rfl) ?_
  refine RunL.still rfl rfl rfl (Still.assign rfl rfl) ?_
  refine RunL.nil ?_
  refine Ends.then ?_
  refine RunC.seq ?_
  refine RunC.region ?_
  refine RunL.still rfl rfl rfl (Still.move rfl rfl) ?_
  refine RunL.still rfl rfl rfl (Still.neq rfl rfl rfl) ?_
  refine RunL.nil ?_
  refine Ends.then ?_
  refine RunC.cond rfl (fun h18 => ?_) (fun h18 => ?_)
  · have h18 := of_decide_eq_true h18
    refine RunC.seq ?_
    refine RunC.region ?_
    refine RunL.still rfl rfl rfl (Still.move rfl rfl) ?_
    refine RunL.still rfl rfl rfl (Still.assign rfl rfl) ?_
    refine RunL.still rfl rfl rfl (Still.assign rfl rfl) ?_
    refine RunL.nil ?_
    refine Ends.then ?_
    refine RunC.ret ?_
    refine Ends.then_ret ?_
    refine Ends.leave (.inl rfl) (fun _ _ ok => results2 Tryd.results39 (Holds.tmp rfl) (Holds.tmp rfl) ok) (fun w1 hs => ?_)
    exact Ret.intro () trivial rfl (HSub.nil _) hs
  · have h18 := of_decide_eq_false h18
    exact absurd hc h18

end Go.Proofs
