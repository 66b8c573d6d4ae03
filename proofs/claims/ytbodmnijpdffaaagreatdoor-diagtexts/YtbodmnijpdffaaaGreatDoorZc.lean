/- The reference reads a text, chapter 22. -/
import Derived.Test.YtbodmnijpdffaaaGreatDoorSh
import Derived.Test.YtbodmnijpdffaaaGreatDoorDg
import Derived.Test.YtbodmnijpdffaaaGreatDoorProg
import Derived.KernelRfl
import Derived.Lib.AtoiAll
import Derived.Lib.Split
import Derived.Lib.SmallJoins
import Derived.Test.YtbodmnijpdffaaaGreatDoorPa
import Derived.WideLaws
import Derived.Lib.SplitLaws
namespace Go.Proofs
open Go Go.V
set_option maxRecDepth 20000
theorem take_call (b : Nat) (t s : ByteArray) (p : Nat) (ok : Bool) (w : World) {C : Cx} {L : List HL} (hs : Sym C.w0 C.S L w) (hi : L[0]? = some (HL.obj b (.cells #[.string t, iv (p : Nat), .bool ok] 75 (0, 0)))) (ht : t.size ≤ 1000000) (hp : p ≤ t.size) (hs0 : s.size ≤ 1000) : Gives Tryz.prog 42 #[ptrV b, .string s] w (fun c => c = b) (fun _ : Unit => True) (fun _ => .bool (takesB t p s)) (fun _ => [HL.obj b (.cells #[.string t, iv (takeP t p s : Nat), .bool ok] 75 (0, 0))]) :=
  ref_take b t s p ok w (hs.at hi) (hs.lt hi) ht hp hs0
theorem number_call (b : Nat) (t : ByteArray) (p : Nat) (ok : Bool) (w : World) {C : Cx} {L : List HL} (hs : Sym C.w0 C.S L w) (hi : L[0]? = some (HL.obj b (.cells #[.string t, iv (p : Nat), .bool ok] 75 (0, 0)))) (ht : t.size ≤ 1000000) (hp : p ≤ t.size) : Gives Tryz.prog 43 #[ptrV b] w (fun c => c = b) (fun _ : Unit => True) (fun _ => iv ((numP t p).2 : Nat)) (fun _ => [HL.obj b (.cells #[.string t, iv ((numP t p).1 : Nat), .bool (ok && numOk t p)] 75 (0, 0))]) :=
  ref_number b t p ok w (hs.at hi) (hs.lt hi) ht hp

theorem ref_Parse (t : ByteArray) (w : World) : Gives Tryz.prog 12 #[.string t] w Nil (fun q : Option Addr × Nat => OKB q (resR t).cross.length) (fun q => .tuple #[diaV q.1 q.2 (resR t), iv (errR t)]) (fun q => [ownD q (resR t)]) := by
  refine fn_of_run (S := Nil) (args := [.string t]) (n := 106) (L := []) Tryz.func12 rfl Tryz.ntmps12 (Nat.le_of_ble_eq_true rfl) (Sym.nil _ _) ?_
  change RunC _ _ _ [(0, _)] _
  refine RunC.seq ?_
  refine RunC.region ?_
  refine RunL.grows rfl rfl rfl (Grows.alloc rfl Tryz.zeroValue24) (fun b2 _ => ?_)
  refine RunL.still rfl rfl rfl (Still.assign rfl rfl) ?_
  refine RunL.nil ?_
  refine Ends.then ?_
  refine RunC.seq ?_
  refine RunC.seq ?_
  refine RunC.region ?_
  refine RunL.still rfl rfl rfl (Still.move rfl rfl) ?_
  refine RunL.still rfl rfl rfl (Still.lenStr rfl rfl Tryz.underlying9) ?_
  refine RunL.still rfl rfl rfl (Still.gtr rfl rfl rfl) ?_
  refine RunL.nil ?_
  refine Ends.then ?_
  refine RunC.cond rfl (fun h11 => ?_) (fun h11 => ?_)
  · have h11 := of_decide_eq_true h11
    refine RunC.seq ?_
    refine RunC.region ?_
    refine RunL.still rfl rfl rfl (Still.build_0 (.agg #[.slice none 0 0, .int .i64 0]) rfl (fun _ => by kernel_rfl)) ?_
    refine RunL.does0 rfl rfl (Does.store rfl rfl rfl (i := 0) rfl Tryz.sizeOf24 rfl (rfl) rfl) (fun _ _ => ?_)
    refine RunL.still rfl rfl rfl (Still.assign rfl rfl) ?_
    refine RunL.nil ?_
    refine Ends.then ?_
    refine RunC.ret ?_
    refine Ends.then_ret ?_
    have E := errR_1 (t := t) (by omega)
    refine Ends.leave (.inl rfl) (fun _ _ ok => results2 Tryz.results12 (Holds.cell rfl (fun _ hs => load_cells (vs := [_, _]) Tryz.isAgg24 Tryz.sizeOf24 rfl (cells_nth (hs.at (i := 0) rfl) ⟨rfl, ⟨rfl, trivial⟩⟩))) (Holds.tmp rfl) ok) (fun w1 hs => ?_)
    have hs := hs.own_nil 62 5
    exact Ret.intro (none, 0) (by rw [E.2]; exact fun h => absurd h (Nat.lt_irrefl 0)) (by rw [E.1, E.2]; rfl) (HSub.pick 0 (by rw [E.2]; rfl) (HSub.nil _)) hs
  · have h11 := of_decide_eq_false h11
    refine RunC.skip ?_
    refine Ends.then ?_
    refine RunC.seq ?_
    refine RunC.region ?_
    refine RunL.still rfl rfl rfl (Still.move rfl rfl) ?_
    refine RunL.still rfl rfl rfl (Still.build_1_1 (fun x0_0 x1_0 => .agg #[x0_0, .int .i64 0, x1_0]) rfl rfl rfl (fun _ => by kernel_rfl)) ?_
    refine RunL.grows rfl rfl rfl (Grows.box rfl rfl) (fun b15 _ => ?_)
    refine RunL.still rfl rfl rfl (Still.assign rfl rfl) ?_
    refine RunL.nil ?_
    refine Ends.then ?_
    refine RunC.seq ?_
    refine RunC.region ?_
    refine RunL.still rfl rfl rfl (Still.build_0 (.agg #[.slice none 0 0, .int .i64 0]) rfl (fun _ => by kernel_rfl)) ?_
    refine RunL.grows rfl rfl rfl (Grows.alloc rfl Tryz.zeroValue24) (fun b5 _ => ?_)
    refine RunL.does0 rfl rfl (Does.store rfl rfl rfl (i := 0) rfl Tryz.sizeOf24 rfl (rfl) rfl) (fun _ _ => ?_)
    refine RunL.own_nil 62 5 ?_
    refine RunL.nil ?_
    refine Ends.then ?_
    refine RunC.seq ?_
    refine RunC.block ?_
    refine RunC.loop2 (γ := Value × List Cr × Nat × Bool × Nat) (keep := [(0, _), (2, _), (4, _), (5, _)]) (hkeep := [_]) (fun (v, xs, p, ok, f) => PI t xs p ok f) (fun (v, xs, p, ok, f) => t.size + 1 - p) (fun (v, xs, p, ok, f) => []) (fun (v, xs, p, ok, f) => [HL.obj b15 (.cells #[.string t, iv (p : Nat), .bool ok] 75 (0, 0)), HL.obj b5 (.cells #[v, iv 0] 24 (0, 0)), HL.own 62 5 v xs.length (xs.flatMap encCr)]) (.slice none 0 0, [], 0, true, t.size + 1) (PI.start t) (Fr.Sub.nil _) (Fr.Sub.cons rfl (Fr.Sub.cons rfl (Fr.Sub.cons rfl (Fr.Sub.cons rfl (Fr.Sub.nil _))))) (HSub.pick 2 rfl (HSub.pick 1 rfl (HSub.pick 0 rfl (HSub.pick 0 rfl (HSub.nil _))))) ?_
    rintro ⟨v, xs, p, ok, f⟩ hI
    have hI : PI t xs p ok f := hI
    have hp := hI.2.2.1
    have hxw := hI.2.2.2.1
    have hxl := hI.2.2.2.2
    refine RunC.seq ?_
    refine RunC.seq ?_
    refine RunC.region ?_
    refine RunL.still rfl rfl rfl (Still.move rfl rfl) ?_
    refine RunL.still rfl rfl rfl (Still.nilCheck rfl rfl) ?_
    refine RunL.still rfl rfl rfl (Still.fieldAddrL (off := 0) (off' := 2) rfl rfl Tryz.underlying75 rfl Tryz.sizeOf4 rfl) ?_
    refine RunL.still rfl rfl rfl (Still.load rfl rfl Tryz.isAgg4 (fun _ hs => cell_nth (hs.at (i := 0) rfl) rfl)) ?_
    refine RunL.nil ?_
    refine Ends.then ?_
    refine RunC.cond rfl (fun h20 => ?_) (fun h20 => ?_)
    · have h20 : ok = true := h20
      subst h20
      obtain ⟨f, rfl⟩ : ∃ g, f = g + 1 := ⟨f - 1, by have := hI.fuel; omega⟩
      refine RunC.skip ?_
      refine Ends.then ?_
      refine RunC.block ?_
      refine RunC.seq ?_
      refine RunC.region ?_
      refine RunL.still rfl rfl rfl (Still.build_0 (.agg #[.int .i64 0, .int .i64 0, .int .i64 0, .int .i64 0, .int .i64 0]) rfl (fun _ => by kernel_rfl)) ?_
      refine RunL.grows rfl rfl rfl (Grows.alloc rfl Tryz.zeroValue62) (fun b6 _ => ?_)
      refine RunL.does0 rfl rfl (Does.store rfl rfl rfl (i := 0) rfl Tryz.sizeOf62 rfl (rfl) rfl) (fun _ _ => ?_)
      refine RunL.nil ?_
      refine Ends.then ?_
      refine RunC.seq ?_
      refine RunC.seq ?_
      refine RunC.region ?_
      refine RunL.still rfl rfl rfl (Still.move rfl rfl) ?_
      refine RunL.does rfl rfl rfl (Does.call (vs := #[_, _]) (K := [_]) (R := [_, _, _, _]) (S' := (fun c => c = b15)) rfl rfl Tryz.call42 (HSub.pick 1 rfl (HSub.pick 0 rfl (HSub.pick 0 rfl (HSub.pick 0 rfl (HSub.pick 0 rfl (HSub.nil _)))))) (fun c hc => ⟨_, List.mem_cons_self .., hc⟩) (fun w hs => take_call b15 t plusS p true w hs rfl (by omega) (by omega) (by decide))) (fun _ _ => ?_)
      refine RunL.nil ?_
      refine Ends.then ?_
      refine RunC.cond rfl (fun h23 => ?_) (fun h23 => ?_)
      · have htp := (takeP_1 h23 (k := 1) rfl).1
        have hte := (takeP_1 h23 (k := 1) rfl).2
        have htp2 := htp
        obtain ⟨sg, hsg, hsgv, hgo⟩ : ∃ sg : Int, sg = 1 ∧ (sg = 1 ∨ sg = -1) ∧ sgnOk t p sg := ⟨1, rfl, .inl rfl, ⟨fun h => (by rw [h.1] at h23; cases h23), (if_pos h23).symm⟩⟩
        refine RunC.region ?_
        refine RunL.still rfl rfl rfl (Still.fieldAddrL (off := 0) (off' := 4) rfl rfl Tryz.underlying62 rfl Tryz.sizeOf3 rfl) ?_
        refine RunL.does0 rfl rfl (Does.store1 rfl rfl rfl (i := 1) rfl Tryz.sizeOf3 (rfl) (rfl)) (fun _ _ => ?_)
        refine RunL.nil ?_
        refine Ends.then ?_
        refine RunC.seq ?_
        refine RunC.seq ?_
        refine RunC.region ?_
        refine RunL.still rfl rfl rfl (Still.assign rfl rfl) ?_
        refine RunL.nil ?_
        refine Ends.then ?_
        refine RunC.block ?_
        refine RunC.loop2 (γ := Nat) (keep := [(0, _), (2, _), (4, _), (5, _), (6, _)]) (hkeep := [_, _, _]) (fun k => k ≤ 4) (fun k => 4 - k) (fun k => [(7, iv k)]) (fun k => [HL.obj b15 (.cells #[.string t, iv ((arcsR t (p + 1) k).p : Nat), .bool (arcsR t (p + 1) k).ok] 75 (0, 0)), HL.obj b6 (.cells #[iv (cr4 (arcsR t (p + 1) k).l sg).a0, iv (cr4 (arcsR t (p + 1) k).l sg).a1, iv (cr4 (arcsR t (p + 1) k).l sg).a2, iv (cr4 (arcsR t (p + 1) k).l sg).a3, iv (cr4 (arcsR t (p + 1) k).l sg).s] 62 (0, 0))]) 0 (by omega) (Fr.Sub.cons rfl (Fr.Sub.nil _)) (Fr.Sub.cons rfl (Fr.Sub.cons rfl (Fr.Sub.cons rfl (Fr.Sub.cons rfl (Fr.Sub.cons rfl (Fr.Sub.nil _)))))) (HSub.pick 0 (by first | (rw [htp2]; rfl) | (rw [htp]; rfl)) (HSub.pick 0 (by rw [hsg]; rfl) (HSub.pick 0 rfl (HSub.pick 0 rfl (HSub.pick 0 rfl (HSub.nil _)))))) ?_
        rintro k hk
        have hpk := arcsR_le (p := p + 1) (t := t) (by omega) k
        have hpl := arcsR_len t (p + 1) k
        refine RunC.seq ?_
        refine RunC.seq ?_
        refine RunC.region ?_
        refine RunL.still rfl rfl rfl (Still.move rfl rfl) ?_
        refine RunL.still rfl rfl rfl (Still.lss rfl rfl rfl) ?_
        refine RunL.nil ?_
        refine Ends.then ?_
        refine RunC.cond rfl (fun h42 => ?_) (fun h42 => ?_)
        · have h42 := of_decide_eq_true h42
          have hk4 : k < 4 := by omega
          refine RunC.skip ?_
          refine Ends.then ?_
          refine RunC.seq ?_
          refine RunC.block ?_
          refine RunC.seq ?_
          refine RunC.region ?_
          refine RunL.still rfl rfl rfl (Still.move rfl rfl) ?_
          refine RunL.still rfl rfl rfl (Still.move rfl rfl) ?_
          refine RunL.still rfl rfl rfl (Still.nilCheck rfl rfl) ?_
          refine RunL.still rfl rfl rfl (Still.fieldAddrL (off := 0) (off' := 2) rfl rfl Tryz.underlying75 rfl Tryz.sizeOf4 rfl) ?_
          refine RunL.still rfl rfl rfl (Still.load rfl rfl Tryz.isAgg4 (fun _ hs => cell_nth (hs.at (i := 0) rfl) rfl)) ?_
          refine RunL.still rfl rfl rfl (Still.move rfl rfl) ?_
          refine RunL.split (t := 50) rfl (fun h50 => ?_) (fun h50 => ?_)
          · skip
            refine RunL.still rfl rfl rfl (Still.move rfl rfl) ?_
            refine RunL.does rfl rfl rfl (Does.call (vs := #[_, _]) (K := [_]) (R := [_, _, _, _]) (S' := (fun c => c = b15)) rfl rfl Tryz.call42 (HSub.pick 0 rfl (HSub.pick 0 rfl (HSub.pick 0 rfl (HSub.pick 0 rfl (HSub.pick 0 rfl (HSub.nil _)))))) (fun c hc => ⟨_, List.mem_cons_self .., hc⟩) (fun w hs => take_call b15 t spS (arcsR t (p + 1) k).p (arcsR t (p + 1) k).ok w hs rfl (by omega) (hpk.2) (by decide))) (fun _ _ => ?_)
            refine RunL.still rfl rfl rfl (Still.pickT rfl rfl rfl) ?_
            refine RunL.still rfl rfl rfl (Still.nilCheck rfl rfl) ?_
            refine RunL.still rfl rfl rfl (Still.fieldAddrL (off := 0) (off' := 2) rfl rfl Tryz.underlying75 rfl Tryz.sizeOf4 rfl) ?_
            refine RunL.does0 rfl rfl (Does.store1 rfl rfl rfl (i := 0) rfl Tryz.sizeOf4 (rfl) (rfl)) (fun _ _ => ?_)
            refine RunL.nil ?_
            refine Ends.then ?_
            refine RunC.region ?_
            refine RunL.still rfl rfl rfl (Still.move rfl rfl) ?_
            refine RunL.still rfl rfl rfl (Still.move rfl rfl) ?_
            refine RunL.does rfl rfl rfl (Does.call (vs := #[_]) (K := [_]) (R := [_, _, _, _]) (S' := (fun c => c = b15)) rfl rfl Tryz.call43 (HSub.pick 0 rfl (HSub.pick 0 rfl (HSub.pick 0 rfl (HSub.pick 0 rfl (HSub.pick 0 rfl (HSub.nil _)))))) (fun c hc => ⟨_, List.mem_cons_self .., hc⟩) (fun w hs => number_call b15 t (takeP t (arcsR t (p + 1) k).p spS) (takesB t (arcsR t (p + 1) k).p spS) w hs rfl (by omega) (takeP_le hpk.2))) (fun _ _ => ?_)
            refine RunL.still rfl rfl rfl (Still.fieldAddrL (off := 0) (off' := 0) rfl rfl Tryz.underlying62 rfl Tryz.sizeOf60 rfl) ?_
            refine RunL.still rfl rfl rfl (Still.indexArrNL rfl rfl rfl Tryz.underlying60 Tryz.sizeOf3 (by omega)) ?_
            refine RunL.does0 rfl rfl (Does.store1 rfl rfl rfl (i := 1) rfl Tryz.sizeOf3 rfl (Nat.ble_eq_true_of_le (show 0 + k * 1 + 1 ≤ 5 by omega))) (fun _ _ => ?_)
            refine RunL.conv (fun _ hs => hs.re 1 rfl (show _ = HL.obj b6 (.cells #[iv (cr4 ((arcsR t (p + 1) k).l ++ [((numP t (takeP t (arcsR t (p + 1) k).p spS)).2 : Int)]) sg).a0, iv (cr4 ((arcsR t (p + 1) k).l ++ [((numP t (takeP t (arcsR t (p + 1) k).p spS)).2 : Int)]) sg).a1, iv (cr4 ((arcsR t (p + 1) k).l ++ [((numP t (takeP t (arcsR t (p + 1) k).p spS)).2 : Int)]) sg).a2, iv (cr4 ((arcsR t (p + 1) k).l ++ [((numP t (takeP t (arcsR t (p + 1) k).p spS)).2 : Int)]) sg).a3, iv (cr4 ((arcsR t (p + 1) k).l ++ [((numP t (takeP t (arcsR t (p + 1) k).p spS)).2 : Int)]) sg).s] 62 (0, 0)) from congrArg (fun z => HL.obj b6 (.cells z 62 (0, 0))) (cr4_set hpl hk4 sg _))) ?_
            refine RunL.nil ?_
            refine Ends.block ?_
            refine Ends.then ?_
            refine RunC.region ?_
            refine RunL.still rfl rfl rfl (Still.move rfl rfl) ?_
            refine RunL.still rfl rfl rfl (Still.add rfl rfl rfl (fits64 (by omega) (by omega))) ?_
            refine RunL.still rfl rfl rfl (Still.assign rfl rfl) ?_
            refine RunL.nil ?_
            refine Ends.again (k + 1) ?_ ?_ (Fr.Sub.app ?_ ?_) ?_
            · show k + 1 ≤ 4; omega
            · show _ < _; omega
            · exact Fr.Sub.cons rfl (Fr.Sub.nil _)
            · exact Fr.Sub.cons rfl (Fr.Sub.cons rfl (Fr.Sub.cons rfl (Fr.Sub.cons rfl (Fr.Sub.cons rfl (Fr.Sub.nil _)))))
            · exact HSub.pick 0 (by rw [arcsR, arcR_t h50]; rfl) (HSub.pick 0 (by rw [arcsR, arcR_t h50]; rfl) (HSub.pick 0 rfl (HSub.pick 0 rfl (HSub.pick 0 rfl (HSub.nil _)))))
          · skip
            refine RunL.off rfl rfl rfl ?_
            refine RunL.off rfl rfl rfl ?_
            refine RunL.still rfl rfl rfl (Still.pickF rfl rfl rfl) ?_
            refine RunL.still rfl rfl rfl (Still.nilCheck rfl rfl) ?_
            refine RunL.still rfl rfl rfl (Still.fieldAddrL (off := 0) (off' := 2) rfl rfl Tryz.underlying75 rfl Tryz.sizeOf4 rfl) ?_
            refine RunL.does0 rfl rfl (Does.store1 rfl rfl rfl (i := 0) rfl Tryz.sizeOf4 (rfl) (rfl)) (fun _ _ => ?_)
            refine RunL.nil ?_
            refine Ends.then ?_
            refine RunC.region ?_
            refine RunL.still rfl rfl rfl (Still.move rfl rfl) ?_
            refine RunL.still rfl rfl rfl (Still.move rfl rfl) ?_
            refine RunL.does rfl rfl rfl (Does.call (vs := #[_]) (K := [_]) (R := [_, _, _, _]) (S' := (fun c => c = b15)) rfl rfl Tryz.call43 (HSub.pick 0 rfl (HSub.pick 0 rfl (HSub.pick 0 rfl (HSub.pick 0 rfl (HSub.pick 0 rfl (HSub.nil _)))))) (fun c hc => ⟨_, List.mem_cons_self .., hc⟩) (fun w hs => number_call b15 t (arcsR t (p + 1) k).p false w hs rfl (by omega) (hpk.2))) (fun _ _ => ?_)
            refine RunL.still rfl rfl rfl (Still.fieldAddrL (off := 0) (off' := 0) rfl rfl Tryz.underlying62 rfl Tryz.sizeOf60 rfl) ?_
            refine RunL.still rfl rfl rfl (Still.indexArrNL rfl rfl rfl Tryz.underlying60 Tryz.sizeOf3 (by omega)) ?_
            refine RunL.does0 rfl rfl (Does.store1 rfl rfl rfl (i := 1) rfl Tryz.sizeOf3 rfl (Nat.ble_eq_true_of_le (show 0 + k * 1 + 1 ≤ 5 by omega))) (fun _ _ => ?_)
            refine RunL.conv (fun _ hs => hs.re 1 rfl (show _ = HL.obj b6 (.cells #[iv (cr4 ((arcsR t (p + 1) k).l ++ [((numP t (arcsR t (p + 1) k).p).2 : Int)]) sg).a0, iv (cr4 ((arcsR t (p + 1) k).l ++ [((numP t (arcsR t (p + 1) k).p).2 : Int)]) sg).a1, iv (cr4 ((arcsR t (p + 1) k).l ++ [((numP t (arcsR t (p + 1) k).p).2 : Int)]) sg).a2, iv (cr4 ((arcsR t (p + 1) k).l ++ [((numP t (arcsR t (p + 1) k).p).2 : Int)]) sg).a3, iv (cr4 ((arcsR t (p + 1) k).l ++ [((numP t (arcsR t (p + 1) k).p).2 : Int)]) sg).s] 62 (0, 0)) from congrArg (fun z => HL.obj b6 (.cells z 62 (0, 0))) (cr4_set hpl hk4 sg _))) ?_
            refine RunL.nil ?_
            refine Ends.block ?_
            refine Ends.then ?_
            refine RunC.region ?_
            refine RunL.still rfl rfl rfl (Still.move rfl rfl) ?_
            refine RunL.still rfl rfl rfl (Still.add rfl rfl rfl (fits64 (by omega) (by omega))) ?_
            refine RunL.still rfl rfl rfl (Still.assign rfl rfl) ?_
            refine RunL.nil ?_
            refine Ends.again (k + 1) ?_ ?_ (Fr.Sub.app ?_ ?_) ?_
            · show k + 1 ≤ 4; omega
            · show _ < _; omega
            · exact Fr.Sub.cons rfl (Fr.Sub.nil _)
            · exact Fr.Sub.cons rfl (Fr.Sub.cons rfl (Fr.Sub.cons rfl (Fr.Sub.cons rfl (Fr.Sub.cons rfl (Fr.Sub.nil _)))))
            · exact HSub.pick 0 (by rw [arcsR, arcR_f h50]; rfl) (HSub.pick 0 (by rw [arcsR, arcR_f h50]; rfl) (HSub.pick 0 rfl (HSub.pick 0 rfl (HSub.pick 0 rfl (HSub.nil _)))))
        · have h42 := of_decide_eq_false h42
          obtain rfl : k = 4 := by omega
          refine RunC.exit ?_
          refine Ends.then_exit ?_
          refine Ends.then_exit ?_
          refine Ends.block_exit ?_
          refine Ends.then ?_
          refine RunC.seq ?_
          refine RunC.region ?_
          refine RunL.still rfl rfl rfl (Still.fieldAddrL (off := 0) (off' := 0) rfl rfl Tryz.underlying24 rfl Tryz.sizeOf22 rfl) ?_
          refine RunL.still rfl rfl rfl (Still.load rfl rfl Tryz.isAgg22 (fun _ hs => cell_nth (hs.at (i := 2) rfl) rfl)) ?_
          refine RunL.still rfl rfl rfl (Still.loads rfl rfl Tryz.isAgg62 Tryz.sizeOf62 (vs := [_, _, _, _, _]) rfl (fun _ hs => cells_nth (hs.at (i := 1) rfl) ⟨rfl, ⟨rfl, ⟨rfl, ⟨rfl, ⟨rfl, trivial⟩⟩⟩⟩⟩)) ?_
          refine RunL.grows rfl rfl rfl (Grows.slice1 rfl rfl Tryz.underlying22 Tryz.sizeOf62 rfl Tryz.zeroValue62 (by decide)) (fun b64 _ => ?_)
          refine RunL.does rfl rfl rfl (Does.appendTo (n' := (xs.length + 1)) (xs' := ((xs ++ [cr4 (arcsR t (p + 1) 4).l sg]).flatMap encCr)) (news := [_, _, _, _, _]) rfl rfl rfl rfl (i := 4) rfl Tryz.underlying22 (by kernel_rfl : (_ : Option _) = some (some (.agg #[.int .i64 0, .int .i64 0, .int .i64 0, .int .i64 0, .int .i64 0]), 5, 40)) rfl rfl (fun _ hs => cells_nth (hs.at (i := 0) rfl) ⟨rfl, ⟨rfl, ⟨rfl, ⟨rfl, ⟨rfl, trivial⟩⟩⟩⟩⟩) rfl rfl (by omega) (by omega) (rfl) (flat_snoc _ _)) (fun v65 hv65 => ?_)
          refine RunL.know (fun _ hs => own_oneCell (hs.own (i := 4) rfl)) (fun h1v => ?_)
          refine RunL.still rfl rfl rfl (Still.fieldAddrL (off := 0) (off' := 0) rfl rfl Tryz.underlying24 rfl Tryz.sizeOf22 rfl) ?_
          refine RunL.does0 rfl rfl (Does.store1 rfl rfl rfl (i := 3) rfl Tryz.sizeOf22 (h1v) (rfl)) (fun _ _ => ?_)
          refine RunL.nil ?_
          refine Ends.then ?_
          refine RunC.seq ?_
          refine RunC.region ?_
          refine RunL.still rfl rfl rfl (Still.move rfl rfl) ?_
          refine RunL.does rfl rfl rfl (Does.call (vs := #[_, _]) (K := [_]) (R := [_, _, _, _, _]) (S' := (fun c => c = b15)) rfl rfl Tryz.call42 (HSub.pick 1 rfl (HSub.pick 0 rfl (HSub.pick 0 rfl (HSub.pick 0 rfl (HSub.pick 0 rfl (HSub.pick 0 rfl (HSub.nil _))))))) (fun c hc => ⟨_, List.mem_cons_self .., hc⟩) (fun w hs => take_call b15 t semiS (arcsR t (p + 1) 4).p (arcsR t (p + 1) 4).ok w hs rfl (by omega) (hpk.2) (by decide))) (fun _ _ => ?_)
          refine RunL.still rfl rfl rfl (Still.not rfl rfl) ?_
          refine RunL.nil ?_
          refine Ends.then ?_
          refine RunC.cond rfl (fun h69 => ?_) (fun h69 => ?_)
          · have h69 : takesB t (arcsR t (p + 1) 4).p semiS = false := bnot_t h69
            have htq := takeP_f h69
            refine RunC.seq ?_
            refine RunC.region ?_
            refine RunL.still rfl rfl rfl (Still.move rfl rfl) ?_
            refine RunL.still rfl rfl rfl (Still.move rfl rfl) ?_
            refine RunL.still rfl rfl rfl (Still.nilCheck rfl rfl) ?_
            refine RunL.still rfl rfl rfl (Still.fieldAddrL (off := 0) (off' := 2) rfl rfl Tryz.underlying75 rfl Tryz.sizeOf4 rfl) ?_
            refine RunL.still rfl rfl rfl (Still.load rfl rfl Tryz.isAgg4 (fun _ hs => cell_nth (hs.at (i := 0) rfl) rfl)) ?_
            refine RunL.still rfl rfl rfl (Still.move rfl rfl) ?_
            refine RunL.split (t := 75) rfl (fun h75 => ?_) (fun h75 => ?_)
            · skip
              refine RunL.still rfl rfl rfl (Still.move rfl rfl) ?_
              refine RunL.does rfl rfl rfl (Does.call (vs := #[_, _]) (K := [_]) (R := [_, _, _, _, _]) (S' := (fun c => c = b15)) rfl rfl Tryz.call42 (HSub.pick 0 rfl (HSub.pick 0 rfl (HSub.pick 0 rfl (HSub.pick 0 rfl (HSub.pick 0 rfl (HSub.pick 0 rfl (HSub.nil _))))))) (fun c hc => ⟨_, List.mem_cons_self .., hc⟩) (fun w hs => take_call b15 t barS (takeP t (arcsR t (p + 1) 4).p semiS) (arcsR t (p + 1) 4).ok w hs rfl (by omega) (takeP_le hpk.2) (by decide))) (fun _ _ => ?_)
              refine RunL.still rfl rfl rfl (Still.pickT rfl rfl rfl) ?_
              refine RunL.still rfl rfl rfl (Still.nilCheck rfl rfl) ?_
              refine RunL.still rfl rfl rfl (Still.fieldAddrL (off := 0) (off' := 2) rfl rfl Tryz.underlying75 rfl Tryz.sizeOf4 rfl) ?_
              refine RunL.does0 rfl rfl (Does.store1 rfl rfl rfl (i := 0) rfl Tryz.sizeOf4 (rfl) (rfl)) (fun _ _ => ?_)
              obtain ⟨ye, pe, oke, hR, e1, e2, e3, hpe, hyw, hyl⟩ : ∃ ye pe oke, rdR t = ⟨ye, pe, oke⟩ ∧ ye = (xs ++ [cr4 (arcsR t (p + 1) 4).l sg]) ∧ pe = (if (arcsR t (p + 1) 4).ok = true then takeP t (arcsR t (p + 1) 4).p barS else (arcsR t (p + 1) 4).p) ∧ oke = ((arcsR t (p + 1) 4).ok && takesB t (arcsR t (p + 1) 4).p barS) ∧ pe ≤ t.size ∧ (∀ x ∈ ye, x.Wf) ∧ ye.length ≤ t.size := ⟨_, _, _, hI.barR hgo h69, rfl, rfl, rfl, by have h1 := takeP_le (s := barS) hpk.2; have h2 := hpk.2; split <;> assumption, wf_snoc hxw (cr4_wf hsgv), by rw [List.length_append]; show xs.length + 1 ≤ _; omega⟩
              refine RunL.conv (fun _ hs => hs.re 0 rfl (show _ = HL.obj b15 (.cells #[.string t, iv (pe : Nat), .bool oke] 75 (0, 0)) from by rw [e2, e3, h75]; try (first | (rw [htq]; rfl) | rfl))) ?_
              refine RunL.conv (fun _ hs => hs.re 4 rfl (show _ = HL.own 62 5 _ ye.length (ye.flatMap encCr) from by rw [e1]; try (first | rfl | (rw [List.length_append]; rfl)))) ?_
              refine RunL.nil ?_
              refine Ends.then ?_
              refine RunC.exit ?_
              refine Ends.block_out rfl ?_
              refine Ends.then_exit ?_
              refine Ends.block_exit ?_
              refine Ends.then ?_
              refine RunC.seq ?_
              refine RunC.region ?_
              refine RunL.still rfl rfl rfl (Still.move rfl rfl) ?_
              refine RunL.does rfl rfl rfl (Does.call (vs := #[_]) (K := [_]) (R := [_, _, _, _, _]) (S' := (fun c => c = b15)) rfl rfl Tryz.call43 (HSub.pick 0 rfl (HSub.pick 0 rfl (HSub.pick 0 rfl (HSub.pick 0 rfl (HSub.pick 0 rfl (HSub.pick 0 rfl (HSub.nil _))))))) (fun c hc => ⟨_, List.mem_cons_self .., hc⟩) (fun w hs => number_call b15 t pe oke w hs rfl (by omega) (hpe))) (fun _ _ => ?_)
              refine RunL.still rfl rfl rfl (Still.fieldAddrL (off := 0) (off' := 1) rfl rfl Tryz.underlying24 rfl Tryz.sizeOf3 rfl) ?_
              refine RunL.does0 rfl rfl (Does.store1 rfl rfl rfl (i := 3) rfl Tryz.sizeOf3 (rfl) (rfl)) (fun _ _ => ?_)
              refine RunL.nil ?_
              refine Ends.then ?_
              refine RunC.seq ?_
              refine RunC.seq ?_
              refine RunC.meet1 (chg := [(97, .bool (!(readB t)))]) (keep := [(2, _), (5, _)]) (hkeep := [_, _, _, _, _, _]) (Fr.Sub.cons rfl (Fr.Sub.cons rfl (Fr.Sub.nil _))) (HSub.pick 0 rfl (HSub.pick 0 rfl (HSub.pick 0 rfl (HSub.pick 0 rfl (HSub.pick 0 rfl (HSub.pick 0 rfl (HSub.nil _))))))) ?_ ?_
              ·
                refine RunC.region ?_
                refine RunL.still rfl rfl rfl (Still.move rfl rfl) ?_
                refine RunL.still rfl rfl rfl (Still.nilCheck rfl rfl) ?_
                refine RunL.still rfl rfl rfl (Still.fieldAddrL (off := 0) (off' := 2) rfl rfl Tryz.underlying75 rfl Tryz.sizeOf4 rfl) ?_
                refine RunL.still rfl rfl rfl (Still.load rfl rfl Tryz.isAgg4 (fun _ hs => cell_nth (hs.at (i := 0) rfl) rfl)) ?_
                refine RunL.still rfl rfl rfl (Still.not rfl rfl) ?_
                refine RunL.still rfl rfl rfl (Still.move rfl rfl) ?_
                refine RunL.split (t := 89) rfl (fun h89 => ?_) (fun h89 => ?_)
                · have h89 : (oke && numOk t pe) = false := bnot_t h89
                  refine RunL.off rfl rfl rfl ?_
                  refine RunL.off rfl rfl rfl ?_
                  refine RunL.off rfl rfl rfl ?_
                  refine RunL.off rfl rfl rfl ?_
                  refine RunL.off rfl rfl rfl ?_
                  refine RunL.off rfl rfl rfl ?_
                  refine RunL.off rfl rfl rfl ?_
                  refine RunL.still rfl rfl rfl (Still.pickT rfl rfl rfl) ?_
                  refine RunL.nil ?_
                  exact Ends.meet1 (Fr.Sub.cons (by first | (rw [readB_eq hR, h89, Bool.false_and]; rfl) | (rw [readB_eq hR, h89, Bool.true_and, dec_ne]; rfl)) (Fr.Sub.nil _)) (Fr.Sub.cons rfl (Fr.Sub.cons rfl (Fr.Sub.nil _))) (HSub.pick 0 rfl (HSub.pick 0 rfl (HSub.pick 0 rfl (HSub.pick 0 rfl (HSub.pick 0 rfl (HSub.pick 0 rfl (HSub.nil _)))))))
                · have h89 : (oke && numOk t pe) = true := bnot_f h89
                  refine RunL.still rfl rfl rfl (Still.move rfl rfl) ?_
                  refine RunL.still rfl rfl rfl (Still.nilCheck rfl rfl) ?_
                  refine RunL.still rfl rfl rfl (Still.fieldAddrL (off := 0) (off' := 1) rfl rfl Tryz.underlying75 rfl Tryz.sizeOf3 rfl) ?_
                  refine RunL.still rfl rfl rfl (Still.load rfl rfl Tryz.isAgg3 (fun _ hs => cell_nth (hs.at (i := 0) rfl) rfl)) ?_
                  refine RunL.still rfl rfl rfl (Still.move rfl rfl) ?_
                  refine RunL.still rfl rfl rfl (Still.lenStr rfl rfl Tryz.underlying9) ?_
                  refine RunL.still rfl rfl rfl (Still.neq rfl rfl rfl) ?_
                  refine RunL.still rfl rfl rfl (Still.pickF rfl rfl rfl) ?_
                  refine RunL.nil ?_
                  exact Ends.meet1 (Fr.Sub.cons (by first | (rw [readB_eq hR, h89, Bool.false_and]; rfl) | (rw [readB_eq hR, h89, Bool.true_and, dec_ne]; rfl)) (Fr.Sub.nil _)) (Fr.Sub.cons rfl (Fr.Sub.cons rfl (Fr.Sub.nil _))) (HSub.pick 0 rfl (HSub.pick 0 rfl (HSub.pick 0 rfl (HSub.pick 0 rfl (HSub.pick 0 rfl (HSub.pick 0 rfl (HSub.nil _)))))))
              ·
                refine Ends.then ?_
                refine RunC.cond rfl (fun h97 => ?_) (fun h97 => ?_)
                · have hb : readB t = false := bnot_t h97
                  refine RunC.seq ?_
                  refine RunC.region ?_
                  refine RunL.still rfl rfl rfl (Still.build_0 (.agg #[.slice none 0 0, .int .i64 0]) rfl (fun _ => by kernel_rfl)) ?_
                  refine RunL.does0 rfl rfl (Does.store rfl rfl rfl (i := 5) rfl Tryz.sizeOf24 rfl (rfl) rfl) (fun _ _ => ?_)
                  refine RunL.still rfl rfl rfl (Still.assign rfl rfl) ?_
                  refine RunL.nil ?_
                  refine Ends.then ?_
                  refine RunC.ret ?_
                  refine Ends.then_ret ?_
                  have E := errR_2 (t := t) (by omega) hb
                  refine Ends.leave (.inl rfl) (fun _ _ ok => results2 Tryz.results12 (Holds.cell rfl (fun _ hs => load_cells (vs := [_, _]) Tryz.isAgg24 Tryz.sizeOf24 rfl (cells_nth (hs.at (i := 5) rfl) ⟨rfl, ⟨rfl, trivial⟩⟩))) (Holds.tmp rfl) ok) (fun w2 hs => ?_)
                  have hs := hs.own_nil 62 5
                  exact Ret.intro (none, 0) (by rw [E.2]; exact fun h => absurd h (Nat.lt_irrefl 0)) (by rw [E.1, E.2]; rfl) (HSub.pick 0 (by rw [E.2]; rfl) (HSub.nil _)) hs
                · have hb : readB t = true := bnot_f h97
                  have hrd := readR_some hR hb
                  refine RunC.know (fun _ hs => own_shape (hs.own (i := 4) rfl)) (fun hsh => ?_)
                  obtain ⟨vb, vc, hvv, hvb⟩ := hsh
                  subst hvv
                  refine RunC.skip ?_
                  refine Ends.then ?_
                  refine RunC.seq ?_
                  refine RunC.seq ?_
                  refine RunC.region ?_
                  refine RunL.still rfl rfl rfl (Still.loads rfl rfl Tryz.isAgg24 Tryz.sizeOf24 (vs := [_, _]) rfl (fun _ hs => cells_nth (hs.at (i := 3) rfl) ⟨rfl, ⟨rfl, trivial⟩⟩)) ?_
                  refine RunL.grows rfl rfl rfl (Grows.call (vs := #[_]) rfl rfl Tryz.call8 (fun w hs => ref_Check vb (vaddr (.slice vb ye.length vc)) vc ⟨ye, ((numP t pe).2 : Nat)⟩ w (DiaAt.of_ownW (g := (vb, vc)) (d := ⟨ye, ((numP t pe).2 : Nat)⟩) hyw (num_in64 t pe) (by show ye.length ≤ _; omega) (hs.at (i := 4) rfl)))) (fun _ _ => ?_)
                  refine RunL.still rfl rfl rfl (Still.assign rfl rfl) ?_
                  refine RunL.nil ?_
                  refine Ends.then ?_
                  refine RunC.seq ?_
                  refine RunC.region ?_
                  refine RunL.still rfl rfl rfl (Still.move rfl rfl) ?_
                  refine RunL.still rfl rfl rfl (Still.neq rfl rfl rfl) ?_
                  refine RunL.nil ?_
                  refine Ends.then ?_
                  refine RunC.cond rfl (fun h102 => ?_) (fun h102 => ?_)
                  · have h102 := of_decide_eq_true h102
                    refine RunC.seq ?_
                    refine RunC.region ?_
                    refine RunL.still rfl rfl rfl (Still.build_0 (.agg #[.slice none 0 0, .int .i64 0]) rfl (fun _ => by kernel_rfl)) ?_
                    refine RunL.still rfl rfl rfl (Still.move rfl rfl) ?_
                    refine RunL.does0 rfl rfl (Does.store rfl rfl rfl (i := 5) rfl Tryz.sizeOf24 rfl (rfl) rfl) (fun _ _ => ?_)
                    refine RunL.still rfl rfl rfl (Still.assign rfl rfl) ?_
                    refine RunL.nil ?_
                    refine Ends.then ?_
                    refine RunC.ret ?_
                    refine Ends.then_ret ?_
                    have E := errR_3 (t := t) (by omega) hrd h102
                    refine Ends.leave (.inl rfl) (fun _ _ ok => results2 Tryz.results12 (Holds.cell rfl (fun _ hs => load_cells (vs := [_, _]) Tryz.isAgg24 Tryz.sizeOf24 rfl (cells_nth (hs.at (i := 5) rfl) ⟨rfl, ⟨rfl, trivial⟩⟩))) (Holds.tmp rfl) ok) (fun w3 hs => ?_)
                    have hs := hs.own_nil 62 5
                    exact Ret.intro (none, 0) (by rw [E.2]; exact fun h => absurd h (Nat.lt_irrefl 0)) (by rw [E.1, E.2]; rfl) (HSub.pick 0 (by rw [E.2]; rfl) (HSub.nil _)) hs
                  · have h102 := of_decide_eq_false h102
                    refine RunC.skip ?_
                    refine Ends.then ?_
                    refine RunC.seq ?_
                    refine RunC.region ?_
                    refine RunL.still rfl rfl rfl (Still.loads rfl rfl Tryz.isAgg24 Tryz.sizeOf24 (vs := [_, _]) rfl (fun _ hs => cells_nth (hs.at (i := 3) rfl) ⟨rfl, ⟨rfl, trivial⟩⟩)) ?_
                    refine RunL.does0 rfl rfl (Does.store rfl rfl rfl (i := 5) rfl Tryz.sizeOf24 rfl (rfl) rfl) (fun _ _ => ?_)
                    refine RunL.still rfl rfl rfl (Still.assign rfl rfl) ?_
                    refine RunL.nil ?_
                    refine Ends.then ?_
                    refine RunC.ret ?_
                    have E := errR_4 (t := t) (by omega) hrd (Decidable.not_not.1 h102)
                    refine Ends.leave (.inl rfl) (fun _ _ ok => results2 Tryz.results12 (Holds.cell rfl (fun _ hs => load_cells (vs := [_, _]) Tryz.isAgg24 Tryz.sizeOf24 rfl (cells_nth (hs.at (i := 5) rfl) ⟨rfl, ⟨rfl, trivial⟩⟩))) (Holds.tmp rfl) ok) (fun w4 hs => ?_)
                    exact Ret.intro (vb, vc) (by rw [E.2]; exact hvb) (by rw [E.1, E.2]) (HSub.pick 4 (by rw [E.2]; rfl) (HSub.nil _)) hs
            · skip
              refine RunL.off rfl rfl rfl ?_
              refine RunL.off rfl rfl rfl ?_
              refine RunL.still rfl rfl rfl (Still.pickF rfl rfl rfl) ?_
              refine RunL.still rfl rfl rfl (Still.nilCheck rfl rfl) ?_
              refine RunL.still rfl rfl rfl (Still.fieldAddrL (off := 0) (off' := 2) rfl rfl Tryz.underlying75 rfl Tryz.sizeOf4 rfl) ?_
              refine RunL.does0 rfl rfl (Does.store1 rfl rfl rfl (i := 0) rfl Tryz.sizeOf4 (rfl) (rfl)) (fun _ _ => ?_)
              obtain ⟨ye, pe, oke, hR, e1, e2, e3, hpe, hyw, hyl⟩ : ∃ ye pe oke, rdR t = ⟨ye, pe, oke⟩ ∧ ye = (xs ++ [cr4 (arcsR t (p + 1) 4).l sg]) ∧ pe = (if (arcsR t (p + 1) 4).ok = true then takeP t (arcsR t (p + 1) 4).p barS else (arcsR t (p + 1) 4).p) ∧ oke = ((arcsR t (p + 1) 4).ok && takesB t (arcsR t (p + 1) 4).p barS) ∧ pe ≤ t.size ∧ (∀ x ∈ ye, x.Wf) ∧ ye.length ≤ t.size := ⟨_, _, _, hI.barR hgo h69, rfl, rfl, rfl, by have h1 := takeP_le (s := barS) hpk.2; have h2 := hpk.2; split <;> assumption, wf_snoc hxw (cr4_wf hsgv), by rw [List.length_append]; show xs.length + 1 ≤ _; omega⟩
              refine RunL.conv (fun _ hs => hs.re 0 rfl (show _ = HL.obj b15 (.cells #[.string t, iv (pe : Nat), .bool oke] 75 (0, 0)) from by rw [e2, e3, h75]; try (first | (rw [htq]; rfl) | rfl))) ?_
              refine RunL.conv (fun _ hs => hs.re 4 rfl (show _ = HL.own 62 5 _ ye.length (ye.flatMap encCr) from by rw [e1]; try (first | rfl | (rw [List.length_append]; rfl)))) ?_
              refine RunL.nil ?_
              refine Ends.then ?_
              refine RunC.exit ?_
              refine Ends.block_out rfl ?_
              refine Ends.then_exit ?_
              refine Ends.block_exit ?_
              refine Ends.then ?_
              refine RunC.seq ?_
              refine RunC.region ?_
              refine RunL.still rfl rfl rfl (Still.move rfl rfl) ?_
              refine RunL.does rfl rfl rfl (Does.call (vs := #[_]) (K := [_]) (R := [_, _, _, _, _]) (S' := (fun c => c = b15)) rfl rfl Tryz.call43 (HSub.pick 0 rfl (HSub.pick 0 rfl (HSub.pick 0 rfl (HSub.pick 0 rfl (HSub.pick 0 rfl (HSub.pick 0 rfl (HSub.nil _))))))) (fun c hc => ⟨_, List.mem_cons_self .., hc⟩) (fun w hs => number_call b15 t pe oke w hs rfl (by omega) (hpe))) (fun _ _ => ?_)
              refine RunL.still rfl rfl rfl (Still.fieldAddrL (off := 0) (off' := 1) rfl rfl Tryz.underlying24 rfl Tryz.sizeOf3 rfl) ?_
              refine RunL.does0 rfl rfl (Does.store1 rfl rfl rfl (i := 3) rfl Tryz.sizeOf3 (rfl) (rfl)) (fun _ _ => ?_)
              refine RunL.nil ?_
              refine Ends.then ?_
              refine RunC.seq ?_
              refine RunC.seq ?_
              refine RunC.meet1 (chg := [(97, .bool (!(readB t)))]) (keep := [(2, _), (5, _)]) (hkeep := [_, _, _, _, _, _]) (Fr.Sub.cons rfl (Fr.Sub.cons rfl (Fr.Sub.nil _))) (HSub.pick 0 rfl (HSub.pick 0 rfl (HSub.pick 0 rfl (HSub.pick 0 rfl (HSub.pick 0 rfl (HSub.pick 0 rfl (HSub.nil _))))))) ?_ ?_
              ·
                refine RunC.region ?_
                refine RunL.still rfl rfl rfl (Still.move rfl rfl) ?_
                refine RunL.still rfl rfl rfl (Still.nilCheck rfl rfl) ?_
                refine RunL.still rfl rfl rfl (Still.fieldAddrL (off := 0) (off' := 2) rfl rfl Tryz.underlying75 rfl Tryz.sizeOf4 rfl) ?_
                refine RunL.still rfl rfl rfl (Still.load rfl rfl Tryz.isAgg4 (fun _ hs => cell_nth (hs.at (i := 0) rfl) rfl)) ?_
                refine RunL.still rfl rfl rfl (Still.not rfl rfl) ?_
                refine RunL.still rfl rfl rfl (Still.move rfl rfl) ?_
                refine RunL.split (t := 89) rfl (fun h89 => ?_) (fun h89 => ?_)
                · have h89 : (oke && numOk t pe) = false := bnot_t h89
                  refine RunL.off rfl rfl rfl ?_
                  refine RunL.off rfl rfl rfl ?_
                  refine RunL.off rfl rfl rfl ?_
                  refine RunL.off rfl rfl rfl ?_
                  refine RunL.off rfl rfl rfl ?_
                  refine RunL.off rfl rfl rfl ?_
                  refine RunL.off rfl rfl rfl ?_
                  refine RunL.still rfl rfl rfl (Still.pickT rfl rfl rfl) ?_
                  refine RunL.nil ?_
                  exact Ends.meet1 (Fr.Sub.cons (by first | (rw [readB_eq hR, h89, Bool.false_and]; rfl) | (rw [readB_eq hR, h89, Bool.true_and, dec_ne]; rfl)) (Fr.Sub.nil _)) (Fr.Sub.cons rfl (Fr.Sub.cons rfl (Fr.Sub.nil _))) (HSub.pick 0 rfl (HSub.pick 0 rfl (HSub.pick 0 rfl (HSub.pick 0 rfl (HSub.pick 0 rfl (HSub.pick 0 rfl (HSub.nil _)))))))
                · have h89 : (oke && numOk t pe) = true := bnot_f h89
                  refine RunL.still rfl rfl rfl (Still.move rfl rfl) ?_
                  refine RunL.still rfl rfl rfl (Still.nilCheck rfl rfl) ?_
                  refine RunL.still rfl rfl rfl (Still.fieldAddrL (off := 0) (off' := 1) rfl rfl Tryz.underlying75 rfl Tryz.sizeOf3 rfl) ?_
                  refine RunL.still rfl rfl rfl (Still.load rfl rfl Tryz.isAgg3 (fun _ hs => cell_nth (hs.at (i := 0) rfl) rfl)) ?_
                  refine RunL.still rfl rfl rfl (Still.move rfl rfl) ?_
                  refine RunL.still rfl rfl rfl (Still.lenStr rfl rfl Tryz.underlying9) ?_
                  refine RunL.still rfl rfl rfl (Still.neq rfl rfl rfl) ?_
                  refine RunL.still rfl rfl rfl (Still.pickF rfl rfl rfl) ?_
                  refine RunL.nil ?_
                  exact Ends.meet1 (Fr.Sub.cons (by first | (rw [readB_eq hR, h89, Bool.false_and]; rfl) | (rw [readB_eq hR, h89, Bool.true_and, dec_ne]; rfl)) (Fr.Sub.nil _)) (Fr.Sub.cons rfl (Fr.Sub.cons rfl (Fr.Sub.nil _))) (HSub.pick 0 rfl (HSub.pick 0 rfl (HSub.pick 0 rfl (HSub.pick 0 rfl (HSub.pick 0 rfl (HSub.pick 0 rfl (HSub.nil _)))))))
              ·
                refine Ends.then ?_
                refine RunC.cond rfl (fun h97 => ?_) (fun h97 => ?_)
                · have hb : readB t = false := bnot_t h97
                  refine RunC.seq ?_
                  refine RunC.region ?_
                  refine RunL.still rfl rfl rfl (Still.build_0 (.agg #[.slice none 0 0, .int .i64 0]) rfl (fun _ => by kernel_rfl)) ?_
                  refine RunL.does0 rfl rfl (Does.store rfl rfl rfl (i := 5) rfl Tryz.sizeOf24 rfl (rfl) rfl) (fun _ _ => ?_)
                  refine RunL.still rfl rfl rfl (Still.assign rfl rfl) ?_
                  refine RunL.nil ?_
                  refine Ends.then ?_
                  refine RunC.ret ?_
                  refine Ends.then_ret ?_
                  have E := errR_2 (t := t) (by omega) hb
                  refine Ends.leave (.inl rfl) (fun _ _ ok => results2 Tryz.results12 (Holds.cell rfl (fun _ hs => load_cells (vs := [_, _]) Tryz.isAgg24 Tryz.sizeOf24 rfl (cells_nth (hs.at (i := 5) rfl) ⟨rfl, ⟨rfl, trivial⟩⟩))) (Holds.tmp rfl) ok) (fun w5 hs => ?_)
                  have hs := hs.own_nil 62 5
                  exact Ret.intro (none, 0) (by rw [E.2]; exact fun h => absurd h (Nat.lt_irrefl 0)) (by rw [E.1, E.2]; rfl) (HSub.pick 0 (by rw [E.2]; rfl) (HSub.nil _)) hs
                · have hb : readB t = true := bnot_f h97
                  have hrd := readR_some hR hb
                  refine RunC.know (fun _ hs => own_shape (hs.own (i := 4) rfl)) (fun hsh => ?_)
                  obtain ⟨vb, vc, hvv, hvb⟩ := hsh
                  subst hvv
                  refine RunC.skip ?_
                  refine Ends.then ?_
                  refine RunC.seq ?_
                  refine RunC.seq ?_
                  refine RunC.region ?_
                  refine RunL.still rfl rfl rfl (Still.loads rfl rfl Tryz.isAgg24 Tryz.sizeOf24 (vs := [_, _]) rfl (fun _ hs => cells_nth (hs.at (i := 3) rfl) ⟨rfl, ⟨rfl, trivial⟩⟩)) ?_
                  refine RunL.grows rfl rfl rfl (Grows.call (vs := #[_]) rfl rfl Tryz.call8 (fun w hs => ref_Check vb (vaddr (.slice vb ye.length vc)) vc ⟨ye, ((numP t pe).2 : Nat)⟩ w (DiaAt.of_ownW (g := (vb, vc)) (d := ⟨ye, ((numP t pe).2 : Nat)⟩) hyw (num_in64 t pe) (by show ye.length ≤ _; omega) (hs.at (i := 4) rfl)))) (fun _ _ => ?_)
                  refine RunL.still rfl rfl rfl (Still.assign rfl rfl) ?_
                  refine RunL.nil ?_
                  refine Ends.then ?_
                  refine RunC.seq ?_
                  refine RunC.region ?_
                  refine RunL.still rfl rfl rfl (Still.move rfl rfl) ?_
                  refine RunL.still rfl rfl rfl (Still.neq rfl rfl rfl) ?_
                  refine RunL.nil ?_
                  refine Ends.then ?_
                  refine RunC.cond rfl (fun h102 => ?_) (fun h102 => ?_)
                  · have h102 := of_decide_eq_true h102
                    refine RunC.seq ?_
                    refine RunC.region ?_
                    refine RunL.still rfl rfl rfl (Still.build_0 (.agg #[.slice none 0 0, .int .i64 0]) rfl (fun _ => by kernel_rfl)) ?_
                    refine RunL.still rfl rfl rfl (Still.move rfl rfl) ?_
                    refine RunL.does0 rfl rfl (Does.store rfl rfl rfl (i := 5) rfl Tryz.sizeOf24 rfl (rfl) rfl) (fun _ _ => ?_)
                    refine RunL.still rfl rfl rfl (Still.assign rfl rfl) ?_
                    refine RunL.nil ?_
                    refine Ends.then ?_
                    refine RunC.ret ?_
                    refine Ends.then_ret ?_
                    have E := errR_3 (t := t) (by omega) hrd h102
                    refine Ends.leave (.inl rfl) (fun _ _ ok => results2 Tryz.results12 (Holds.cell rfl (fun _ hs => load_cells (vs := [_, _]) Tryz.isAgg24 Tryz.sizeOf24 rfl (cells_nth (hs.at (i := 5) rfl) ⟨rfl, ⟨rfl, trivial⟩⟩))) (Holds.tmp rfl) ok) (fun w6 hs => ?_)
                    have hs := hs.own_nil 62 5
                    exact Ret.intro (none, 0) (by rw [E.2]; exact fun h => absurd h (Nat.lt_irrefl 0)) (by rw [E.1, E.2]; rfl) (HSub.pick 0 (by rw [E.2]; rfl) (HSub.nil _)) hs
                  · have h102 := of_decide_eq_false h102
                    refine RunC.skip ?_
                    refine Ends.then ?_
                    refine RunC.seq ?_
                    refine RunC.region ?_
                    refine RunL.still rfl rfl rfl (Still.loads rfl rfl Tryz.isAgg24 Tryz.sizeOf24 (vs := [_, _]) rfl (fun _ hs => cells_nth (hs.at (i := 3) rfl) ⟨rfl, ⟨rfl, trivial⟩⟩)) ?_
                    refine RunL.does0 rfl rfl (Does.store rfl rfl rfl (i := 5) rfl Tryz.sizeOf24 rfl (rfl) rfl) (fun _ _ => ?_)
                    refine RunL.still rfl rfl rfl (Still.assign rfl rfl) ?_
                    refine RunL.nil ?_
                    refine Ends.then ?_
                    refine RunC.ret ?_
                    have E := errR_4 (t := t) (by omega) hrd (Decidable.not_not.1 h102)
                    refine Ends.leave (.inl rfl) (fun _ _ ok => results2 Tryz.results12 (Holds.cell rfl (fun _ hs => load_cells (vs := [_, _]) Tryz.isAgg24 Tryz.sizeOf24 rfl (cells_nth (hs.at (i := 5) rfl) ⟨rfl, ⟨rfl, trivial⟩⟩))) (Holds.tmp rfl) ok) (fun w7 hs => ?_)
                    exact Ret.intro (vb, vc) (by rw [E.2]; exact hvb) (by rw [E.1, E.2]) (HSub.pick 4 (by rw [E.2]; rfl) (HSub.nil _)) hs
          · have h69 : takesB t (arcsR t (p + 1) 4).p semiS = true := bnot_f h69
            refine RunC.skip ?_
            refine Ends.block ?_
            refine Ends.again (v65, xs ++ [cr4 (arcsR t (p + 1) 4).l sg], takeP t (arcsR t (p + 1) 4).p semiS, (arcsR t (p + 1) 4).ok, f) ?_ ?_ (Fr.Sub.app ?_ ?_) ?_
            · exact hI.next hgo h69 hpk hsgv
            · show t.size + 1 - takeP t (arcsR t (p + 1) 4).p semiS < t.size + 1 - p; have := takeP_ge t (arcsR t (p + 1) 4).p semiS; omega
            · exact Fr.Sub.nil _
            · exact Fr.Sub.cons rfl (Fr.Sub.cons rfl (Fr.Sub.cons rfl (Fr.Sub.cons rfl (Fr.Sub.nil _))))
            · exact HSub.pick 0 rfl (HSub.pick 2 rfl (HSub.pick 2 (by rw [List.length_append]; rfl) (HSub.pick 2 rfl (HSub.nil _))))
      · have htp := takeP_f h23
        refine RunC.seq ?_
        refine RunC.region ?_
        refine RunL.still rfl rfl rfl (Still.move rfl rfl) ?_
        refine RunL.does rfl rfl rfl (Does.call (vs := #[_, _]) (K := [_]) (R := [_, _, _, _]) (S' := (fun c => c = b15)) rfl rfl Tryz.call42 (HSub.pick 0 rfl (HSub.pick 0 rfl (HSub.pick 0 rfl (HSub.pick 0 rfl (HSub.pick 0 rfl (HSub.nil _)))))) (fun c hc => ⟨_, List.mem_cons_self .., hc⟩) (fun w hs => take_call b15 t minusS (takeP t p plusS) true w hs rfl (by omega) (takeP_le hp) (by decide))) (fun _ _ => ?_)
        refine RunL.nil ?_
        refine Ends.then ?_
        refine RunC.cond rfl (fun h26 => ?_) (fun h26 => ?_)
        · rw [htp] at h26
          have htp2 : takeP t (takeP t p plusS) minusS = p + 1 := by rw [htp]; exact (takeP_1 h26 (k := 1) rfl).1
          have hte := (takeP_1 h26 (k := 1) rfl).2
          obtain ⟨sg, hsg, hsgv, hgo⟩ : ∃ sg : Int, sg = -1 ∧ (sg = 1 ∨ sg = -1) ∧ sgnOk t p sg := ⟨-1, rfl, .inr rfl, ⟨fun h => (by rw [h.2] at h26; cases h26), (if_neg (by rw [h23]; exact Bool.false_ne_true)).symm⟩⟩
          refine RunC.region ?_
          refine RunL.still rfl rfl rfl (Still.fieldAddrL (off := 0) (off' := 4) rfl rfl Tryz.underlying62 rfl Tryz.sizeOf3 rfl) ?_
          refine RunL.does0 rfl rfl (Does.store1 rfl rfl rfl (i := 1) rfl Tryz.sizeOf3 (rfl) (rfl)) (fun _ _ => ?_)
          refine RunL.nil ?_
          refine Ends.then ?_
          refine RunC.seq ?_
          refine RunC.seq ?_
          refine RunC.region ?_
          refine RunL.still rfl rfl rfl (Still.assign rfl rfl) ?_
          refine RunL.nil ?_
          refine Ends.then ?_
          refine RunC.block ?_
          refine RunC.loop2 (γ := Nat) (keep := [(0, _), (2, _), (4, _), (5, _), (6, _)]) (hkeep := [_, _, _]) (fun k => k ≤ 4) (fun k => 4 - k) (fun k => [(7, iv k)]) (fun k => [HL.obj b15 (.cells #[.string t, iv ((arcsR t (p + 1) k).p : Nat), .bool (arcsR t (p + 1) k).ok] 75 (0, 0)), HL.obj b6 (.cells #[iv (cr4 (arcsR t (p + 1) k).l sg).a0, iv (cr4 (arcsR t (p + 1) k).l sg).a1, iv (cr4 (arcsR t (p + 1) k).l sg).a2, iv (cr4 (arcsR t (p + 1) k).l sg).a3, iv (cr4 (arcsR t (p + 1) k).l sg).s] 62 (0, 0))]) 0 (by omega) (Fr.Sub.cons rfl (Fr.Sub.nil _)) (Fr.Sub.cons rfl (Fr.Sub.cons rfl (Fr.Sub.cons rfl (Fr.Sub.cons rfl (Fr.Sub.cons rfl (Fr.Sub.nil _)))))) (HSub.pick 0 (by first | (rw [htp2]; rfl) | (rw [htp]; rfl)) (HSub.pick 0 (by rw [hsg]; rfl) (HSub.pick 0 rfl (HSub.pick 0 rfl (HSub.pick 0 rfl (HSub.nil _)))))) ?_
          rintro k hk
          have hpk := arcsR_le (p := p + 1) (t := t) (by omega) k
          have hpl := arcsR_len t (p + 1) k
          refine RunC.seq ?_
          refine RunC.seq ?_
          refine RunC.region ?_
          refine RunL.still rfl rfl rfl (Still.move rfl rfl) ?_
          refine RunL.still rfl rfl rfl (Still.lss rfl rfl rfl) ?_
          refine RunL.nil ?_
          refine Ends.then ?_
          refine RunC.cond rfl (fun h42 => ?_) (fun h42 => ?_)
          · have h42 := of_decide_eq_true h42
            have hk4 : k < 4 := by omega
            refine RunC.skip ?_
            refine Ends.then ?_
            refine RunC.seq ?_
            refine RunC.block ?_
            refine RunC.seq ?_
            refine RunC.region ?_
            refine RunL.still rfl rfl rfl (Still.move rfl rfl) ?_
            refine RunL.still rfl rfl rfl (Still.move rfl rfl) ?_
            refine RunL.still rfl rfl rfl (Still.nilCheck rfl rfl) ?_
            refine RunL.still rfl rfl rfl (Still.fieldAddrL (off := 0) (off' := 2) rfl rfl Tryz.underlying75 rfl Tryz.sizeOf4 rfl) ?_
            refine RunL.still rfl rfl rfl (Still.load rfl rfl Tryz.isAgg4 (fun _ hs => cell_nth (hs.at (i := 0) rfl) rfl)) ?_
            refine RunL.still rfl rfl rfl (Still.move rfl rfl) ?_
            refine RunL.split (t := 50) rfl (fun h50 => ?_) (fun h50 => ?_)
            · skip
              refine RunL.still rfl rfl rfl (Still.move rfl rfl) ?_
              refine RunL.does rfl rfl rfl (Does.call (vs := #[_, _]) (K := [_]) (R := [_, _, _, _]) (S' := (fun c => c = b15)) rfl rfl Tryz.call42 (HSub.pick 0 rfl (HSub.pick 0 rfl (HSub.pick 0 rfl (HSub.pick 0 rfl (HSub.pick 0 rfl (HSub.nil _)))))) (fun c hc => ⟨_, List.mem_cons_self .., hc⟩) (fun w hs => take_call b15 t spS (arcsR t (p + 1) k).p (arcsR t (p + 1) k).ok w hs rfl (by omega) (hpk.2) (by decide))) (fun _ _ => ?_)
              refine RunL.still rfl rfl rfl (Still.pickT rfl rfl rfl) ?_
              refine RunL.still rfl rfl rfl (Still.nilCheck rfl rfl) ?_
              refine RunL.still rfl rfl rfl (Still.fieldAddrL (off := 0) (off' := 2) rfl rfl Tryz.underlying75 rfl Tryz.sizeOf4 rfl) ?_
              refine RunL.does0 rfl rfl (Does.store1 rfl rfl rfl (i := 0) rfl Tryz.sizeOf4 (rfl) (rfl)) (fun _ _ => ?_)
              refine RunL.nil ?_
              refine Ends.then ?_
              refine RunC.region ?_
              refine RunL.still rfl rfl rfl (Still.move rfl rfl) ?_
              refine RunL.still rfl rfl rfl (Still.move rfl rfl) ?_
              refine RunL.does rfl rfl rfl (Does.call (vs := #[_]) (K := [_]) (R := [_, _, _, _]) (S' := (fun c => c = b15)) rfl rfl Tryz.call43 (HSub.pick 0 rfl (HSub.pick 0 rfl (HSub.pick 0 rfl (HSub.pick 0 rfl (HSub.pick 0 rfl (HSub.nil _)))))) (fun c hc => ⟨_, List.mem_cons_self .., hc⟩) (fun w hs => number_call b15 t (takeP t (arcsR t (p + 1) k).p spS) (takesB t (arcsR t (p + 1) k).p spS) w hs rfl (by omega) (takeP_le hpk.2))) (fun _ _ => ?_)
              refine RunL.still rfl rfl rfl (Still.fieldAddrL (off := 0) (off' := 0) rfl rfl Tryz.underlying62 rfl Tryz.sizeOf60 rfl) ?_
              refine RunL.still rfl rfl rfl (Still.indexArrNL rfl rfl rfl Tryz.underlying60 Tryz.sizeOf3 (by omega)) ?_
              refine RunL.does0 rfl rfl (Does.store1 rfl rfl rfl (i := 1) rfl Tryz.sizeOf3 rfl (Nat.ble_eq_true_of_le (show 0 + k * 1 + 1 ≤ 5 by omega))) (fun _ _ => ?_)
              refine RunL.conv (fun _ hs => hs.re 1 rfl (show _ = HL.obj b6 (.cells #[iv (cr4 ((arcsR t (p + 1) k).l ++ [((numP t (takeP t (arcsR t (p + 1) k).p spS)).2 : Int)]) sg).a0, iv (cr4 ((arcsR t (p + 1) k).l ++ [((numP t (takeP t (arcsR t (p + 1) k).p spS)).2 : Int)]) sg).a1, iv (cr4 ((arcsR t (p + 1) k).l ++ [((numP t (takeP t (arcsR t (p + 1) k).p spS)).2 : Int)]) sg).a2, iv (cr4 ((arcsR t (p + 1) k).l ++ [((numP t (takeP t (arcsR t (p + 1) k).p spS)).2 : Int)]) sg).a3, iv (cr4 ((arcsR t (p + 1) k).l ++ [((numP t (takeP t (arcsR t (p + 1) k).p spS)).2 : Int)]) sg).s] 62 (0, 0)) from congrArg (fun z => HL.obj b6 (.cells z 62 (0, 0))) (cr4_set hpl hk4 sg _))) ?_
              refine RunL.nil ?_
              refine Ends.block ?_
              refine Ends.then ?_
              refine RunC.region ?_
              refine RunL.still rfl rfl rfl (Still.move rfl rfl) ?_
              refine RunL.still rfl rfl rfl (Still.add rfl rfl rfl (fits64 (by omega) (by omega))) ?_
              refine RunL.still rfl rfl rfl (Still.assign rfl rfl) ?_
              refine RunL.nil ?_
              refine Ends.again (k + 1) ?_ ?_ (Fr.Sub.app ?_ ?_) ?_
              · show k + 1 ≤ 4; omega
              · show _ < _; omega
              · exact Fr.Sub.cons rfl (Fr.Sub.nil _)
              · exact Fr.Sub.cons rfl (Fr.Sub.cons rfl (Fr.Sub.cons rfl (Fr.Sub.cons rfl (Fr.Sub.cons rfl (Fr.Sub.nil _)))))
              · exact HSub.pick 0 (by rw [arcsR, arcR_t h50]; rfl) (HSub.pick 0 (by rw [arcsR, arcR_t h50]; rfl) (HSub.pick 0 rfl (HSub.pick 0 rfl (HSub.pick 0 rfl (HSub.nil _)))))
            · skip
              refine RunL.off rfl rfl rfl ?_
              refine RunL.off rfl rfl rfl ?_
              refine RunL.still rfl rfl rfl (Still.pickF rfl rfl rfl) ?_
              refine RunL.still rfl rfl rfl (Still.nilCheck rfl rfl) ?_
              refine RunL.still rfl rfl rfl (Still.fieldAddrL (off := 0) (off' := 2) rfl rfl Tryz.underlying75 rfl Tryz.sizeOf4 rfl) ?_
              refine RunL.does0 rfl rfl (Does.store1 rfl rfl rfl (i := 0) rfl Tryz.sizeOf4 (rfl) (rfl)) (fun _ _ => ?_)
              refine RunL.nil ?_
              refine Ends.then ?_
              refine RunC.region ?_
              refine RunL.still rfl rfl rfl (Still.move rfl rfl) ?_
              refine RunL.still rfl rfl rfl (Still.move rfl rfl) ?_
              refine RunL.does rfl rfl rfl (Does.call (vs := #[_]) (K := [_]) (R := [_, _, _, _]) (S' := (fun c => c = b15)) rfl rfl Tryz.call43 (HSub.pick 0 rfl (HSub.pick 0 rfl (HSub.pick 0 rfl (HSub.pick 0 rfl (HSub.pick 0 rfl (HSub.nil _)))))) (fun c hc => ⟨_, List.mem_cons_self .., hc⟩) (fun w hs => number_call b15 t (arcsR t (p + 1) k).p false w hs rfl (by omega) (hpk.2))) (fun _ _ => ?_)
              refine RunL.still rfl rfl rfl (Still.fieldAddrL (off := 0) (off' := 0) rfl rfl Tryz.underlying62 rfl Tryz.sizeOf60 rfl) ?_
              refine RunL.still rfl rfl rfl (Still.indexArrNL rfl rfl rfl Tryz.underlying60 Tryz.sizeOf3 (by omega)) ?_
              refine RunL.does0 rfl rfl (Does.store1 rfl rfl rfl (i := 1) rfl Tryz.sizeOf3 rfl (Nat.ble_eq_true_of_le (show 0 + k * 1 + 1 ≤ 5 by omega))) (fun _ _ => ?_)
              refine RunL.conv (fun _ hs => hs.re 1 rfl (show _ = HL.obj b6 (.cells #[iv (cr4 ((arcsR t (p + 1) k).l ++ [((numP t (arcsR t (p + 1) k).p).2 : Int)]) sg).a0, iv (cr4 ((arcsR t (p + 1) k).l ++ [((numP t (arcsR t (p + 1) k).p).2 : Int)]) sg).a1, iv (cr4 ((arcsR t (p + 1) k).l ++ [((numP t (arcsR t (p + 1) k).p).2 : Int)]) sg).a2, iv (cr4 ((arcsR t (p + 1) k).l ++ [((numP t (arcsR t (p + 1) k).p).2 : Int)]) sg).a3, iv (cr4 ((arcsR t (p + 1) k).l ++ [((numP t (arcsR t (p + 1) k).p).2 : Int)]) sg).s] 62 (0, 0)) from congrArg (fun z => HL.obj b6 (.cells z 62 (0, 0))) (cr4_set hpl hk4 sg _))) ?_
              refine RunL.nil ?_
              refine Ends.block ?_
              refine Ends.then ?_
              refine RunC.region ?_
              refine RunL.still rfl rfl rfl (Still.move rfl rfl) ?_
              refine RunL.still rfl rfl rfl (Still.add rfl rfl rfl (fits64 (by omega) (by omega))) ?_
              refine RunL.still rfl rfl rfl (Still.assign rfl rfl) ?_
              refine RunL.nil ?_
              refine Ends.again (k + 1) ?_ ?_ (Fr.Sub.app ?_ ?_) ?_
              · show k + 1 ≤ 4; omega
              · show _ < _; omega
              · exact Fr.Sub.cons rfl (Fr.Sub.nil _)
              · exact Fr.Sub.cons rfl (Fr.Sub.cons rfl (Fr.Sub.cons rfl (Fr.Sub.cons rfl (Fr.Sub.cons rfl (Fr.Sub.nil _)))))
              · exact HSub.pick 0 (by rw [arcsR, arcR_f h50]; rfl) (HSub.pick 0 (by rw [arcsR, arcR_f h50]; rfl) (HSub.pick 0 rfl (HSub.pick 0 rfl (HSub.pick 0 rfl (HSub.nil _)))))
          · have h42 := of_decide_eq_false h42
            obtain rfl : k = 4 := by omega
            refine RunC.exit ?_
            refine Ends.then_exit ?_
            refine Ends.then_exit ?_
            refine Ends.block_exit ?_
            refine Ends.then ?_
            refine RunC.seq ?_
            refine RunC.region ?_
            refine RunL.still rfl rfl rfl (Still.fieldAddrL (off := 0) (off' := 0) rfl rfl Tryz.underlying24 rfl Tryz.sizeOf22 rfl) ?_
            refine RunL.still rfl rfl rfl (Still.load rfl rfl Tryz.isAgg22 (fun _ hs => cell_nth (hs.at (i := 2) rfl) rfl)) ?_
            refine RunL.still rfl rfl rfl (Still.loads rfl rfl Tryz.isAgg62 Tryz.sizeOf62 (vs := [_, _, _, _, _]) rfl (fun _ hs => cells_nth (hs.at (i := 1) rfl) ⟨rfl, ⟨rfl, ⟨rfl, ⟨rfl, ⟨rfl, trivial⟩⟩⟩⟩⟩)) ?_
            refine RunL.grows rfl rfl rfl (Grows.slice1 rfl rfl Tryz.underlying22 Tryz.sizeOf62 rfl Tryz.zeroValue62 (by decide)) (fun b64 _ => ?_)
            refine RunL.does rfl rfl rfl (Does.appendTo (n' := (xs.length + 1)) (xs' := ((xs ++ [cr4 (arcsR t (p + 1) 4).l sg]).flatMap encCr)) (news := [_, _, _, _, _]) rfl rfl rfl rfl (i := 4) rfl Tryz.underlying22 (by kernel_rfl : (_ : Option _) = some (some (.agg #[.int .i64 0, .int .i64 0, .int .i64 0, .int .i64 0, .int .i64 0]), 5, 40)) rfl rfl (fun _ hs => cells_nth (hs.at (i := 0) rfl) ⟨rfl, ⟨rfl, ⟨rfl, ⟨rfl, ⟨rfl, trivial⟩⟩⟩⟩⟩) rfl rfl (by omega) (by omega) (rfl) (flat_snoc _ _)) (fun v65 hv65 => ?_)
            refine RunL.know (fun _ hs => own_oneCell (hs.own (i := 4) rfl)) (fun h1v => ?_)
            refine RunL.still rfl rfl rfl (Still.fieldAddrL (off := 0) (off' := 0) rfl rfl Tryz.underlying24 rfl Tryz.sizeOf22 rfl) ?_
            refine RunL.does0 rfl rfl (Does.store1 rfl rfl rfl (i := 3) rfl Tryz.sizeOf22 (h1v) (rfl)) (fun _ _ => ?_)
            refine RunL.nil ?_
            refine Ends.then ?_
            refine RunC.seq ?_
            refine RunC.region ?_
            refine RunL.still rfl rfl rfl (Still.move rfl rfl) ?_
            refine RunL.does rfl rfl rfl (Does.call (vs := #[_, _]) (K := [_]) (R := [_, _, _, _, _]) (S' := (fun c => c = b15)) rfl rfl Tryz.call42 (HSub.pick 1 rfl (HSub.pick 0 rfl (HSub.pick 0 rfl (HSub.pick 0 rfl (HSub.pick 0 rfl (HSub.pick 0 rfl (HSub.nil _))))))) (fun c hc => ⟨_, List.mem_cons_self .., hc⟩) (fun w hs => take_call b15 t semiS (arcsR t (p + 1) 4).p (arcsR t (p + 1) 4).ok w hs rfl (by omega) (hpk.2) (by decide))) (fun _ _ => ?_)
            refine RunL.still rfl rfl rfl (Still.not rfl rfl) ?_
            refine RunL.nil ?_
            refine Ends.then ?_
            refine RunC.cond rfl (fun h69 => ?_) (fun h69 => ?_)
            · have h69 : takesB t (arcsR t (p + 1) 4).p semiS = false := bnot_t h69
              have htq := takeP_f h69
              refine RunC.seq ?_
              refine RunC.region ?_
              refine RunL.still rfl rfl rfl (Still.move rfl rfl) ?_
              refine RunL.still rfl rfl rfl (Still.move rfl rfl) ?_
              refine RunL.still rfl rfl rfl (Still.nilCheck rfl rfl) ?_
              refine RunL.still rfl rfl rfl (Still.fieldAddrL (off := 0) (off' := 2) rfl rfl Tryz.underlying75 rfl Tryz.sizeOf4 rfl) ?_
              refine RunL.still rfl rfl rfl (Still.load rfl rfl Tryz.isAgg4 (fun _ hs => cell_nth (hs.at (i := 0) rfl) rfl)) ?_
              refine RunL.still rfl rfl rfl (Still.move rfl rfl) ?_
              refine RunL.split (t := 75) rfl (fun h75 => ?_) (fun h75 => ?_)
              · skip
                refine RunL.still rfl rfl rfl (Still.move rfl rfl) ?_
                refine RunL.does rfl rfl rfl (Does.call (vs := #[_, _]) (K := [_]) (R := [_, _, _, _, _]) (S' := (fun c => c = b15)) rfl rfl Tryz.call42 (HSub.pick 0 rfl (HSub.pick 0 rfl (HSub.pick 0 rfl (HSub.pick 0 rfl (HSub.pick 0 rfl (HSub.pick 0 rfl (HSub.nil _))))))) (fun c hc => ⟨_, List.mem_cons_self .., hc⟩) (fun w hs => take_call b15 t barS (takeP t (arcsR t (p + 1) 4).p semiS) (arcsR t (p + 1) 4).ok w hs rfl (by omega) (takeP_le hpk.2) (by decide))) (fun _ _ => ?_)
                refine RunL.still rfl rfl rfl (Still.pickT rfl rfl rfl) ?_
                refine RunL.still rfl rfl rfl (Still.nilCheck rfl rfl) ?_
                refine RunL.still rfl rfl rfl (Still.fieldAddrL (off := 0) (off' := 2) rfl rfl Tryz.underlying75 rfl Tryz.sizeOf4 rfl) ?_
                refine RunL.does0 rfl rfl (Does.store1 rfl rfl rfl (i := 0) rfl Tryz.sizeOf4 (rfl) (rfl)) (fun _ _ => ?_)
                obtain ⟨ye, pe, oke, hR, e1, e2, e3, hpe, hyw, hyl⟩ : ∃ ye pe oke, rdR t = ⟨ye, pe, oke⟩ ∧ ye = (xs ++ [cr4 (arcsR t (p + 1) 4).l sg]) ∧ pe = (if (arcsR t (p + 1) 4).ok = true then takeP t (arcsR t (p + 1) 4).p barS else (arcsR t (p + 1) 4).p) ∧ oke = ((arcsR t (p + 1) 4).ok && takesB t (arcsR t (p + 1) 4).p barS) ∧ pe ≤ t.size ∧ (∀ x ∈ ye, x.Wf) ∧ ye.length ≤ t.size := ⟨_, _, _, hI.barR hgo h69, rfl, rfl, rfl, by have h1 := takeP_le (s := barS) hpk.2; have h2 := hpk.2; split <;> assumption, wf_snoc hxw (cr4_wf hsgv), by rw [List.length_append]; show xs.length + 1 ≤ _; omega⟩
                refine RunL.conv (fun _ hs => hs.re 0 rfl (show _ = HL.obj b15 (.cells #[.string t, iv (pe : Nat), .bool oke] 75 (0, 0)) from by rw [e2, e3, h75]; try (first | (rw [htq]; rfl) | rfl))) ?_
                refine RunL.conv (fun _ hs => hs.re 4 rfl (show _ = HL.own 62 5 _ ye.length (ye.flatMap encCr) from by rw [e1]; try (first | rfl | (rw [List.length_append]; rfl)))) ?_
                refine RunL.nil ?_
                refine Ends.then ?_
                refine RunC.exit ?_
                refine Ends.block_out rfl ?_
                refine Ends.then_exit ?_
                refine Ends.block_exit ?_
                refine Ends.then ?_
                refine RunC.seq ?_
                refine RunC.region ?_
                refine RunL.still rfl rfl rfl (Still.move rfl rfl) ?_
                refine RunL.does rfl rfl rfl (Does.call (vs := #[_]) (K := [_]) (R := [_, _, _, _, _]) (S' := (fun c => c = b15)) rfl rfl Tryz.call43 (HSub.pick 0 rfl (HSub.pick 0 rfl (HSub.pick 0 rfl (HSub.pick 0 rfl (HSub.pick 0 rfl (HSub.pick 0 rfl (HSub.nil _))))))) (fun c hc => ⟨_, List.mem_cons_self .., hc⟩) (fun w hs => number_call b15 t pe oke w hs rfl (by omega) (hpe))) (fun _ _ => ?_)
                refine RunL.still rfl rfl rfl (Still.fieldAddrL (off := 0) (off' := 1) rfl rfl Tryz.underlying24 rfl Tryz.sizeOf3 rfl) ?_
                refine RunL.does0 rfl rfl (Does.store1 rfl rfl rfl (i := 3) rfl Tryz.sizeOf3 (rfl) (rfl)) (fun _ _ => ?_)
                refine RunL.nil ?_
                refine Ends.then ?_
                refine RunC.seq ?_
                refine RunC.seq ?_
                refine RunC.meet1 (chg := [(97, .bool (!(readB t)))]) (keep := [(2, _), (5, _)]) (hkeep := [_, _, _, _, _, _]) (Fr.Sub.cons rfl (Fr.Sub.cons rfl (Fr.Sub.nil _))) (HSub.pick 0 rfl (HSub.pick 0 rfl (HSub.pick 0 rfl (HSub.pick 0 rfl (HSub.pick 0 rfl (HSub.pick 0 rfl (HSub.nil _))))))) ?_ ?_
                ·
                  refine RunC.region ?_
                  refine RunL.still rfl rfl rfl (Still.move rfl rfl) ?_
                  refine RunL.still rfl rfl rfl (Still.nilCheck rfl rfl) ?_
                  refine RunL.still rfl rfl rfl (Still.fieldAddrL (off := 0) (off' := 2) rfl rfl Tryz.underlying75 rfl Tryz.sizeOf4 rfl) ?_
                  refine RunL.still rfl rfl rfl (Still.load rfl rfl Tryz.isAgg4 (fun _ hs => cell_nth (hs.at (i := 0) rfl) rfl)) ?_
                  refine RunL.still rfl rfl rfl (Still.not rfl rfl) ?_
                  refine RunL.still rfl rfl rfl (Still.move rfl rfl) ?_
                  refine RunL.split (t := 89) rfl (fun h89 => ?_) (fun h89 => ?_)
                  · have h89 : (oke && numOk t pe) = false := bnot_t h89
                    refine RunL.off rfl rfl rfl ?_
                    refine RunL.off rfl rfl rfl ?_
                    refine RunL.off rfl rfl rfl ?_
                    refine RunL.off rfl rfl rfl ?_
                    refine RunL.off rfl rfl rfl ?_
                    refine RunL.off rfl rfl rfl ?_
                    refine RunL.off rfl rfl rfl ?_
                    refine RunL.still rfl rfl rfl (Still.pickT rfl rfl rfl) ?_
                    refine RunL.nil ?_
                    exact Ends.meet1 (Fr.Sub.cons (by first | (rw [readB_eq hR, h89, Bool.false_and]; rfl) | (rw [readB_eq hR, h89, Bool.true_and, dec_ne]; rfl)) (Fr.Sub.nil _)) (Fr.Sub.cons rfl (Fr.Sub.cons rfl (Fr.Sub.nil _))) (HSub.pick 0 rfl (HSub.pick 0 rfl (HSub.pick 0 rfl (HSub.pick 0 rfl (HSub.pick 0 rfl (HSub.pick 0 rfl (HSub.nil _)))))))
                  · have h89 : (oke && numOk t pe) = true := bnot_f h89
                    refine RunL.still rfl rfl rfl (Still.move rfl rfl) ?_
                    refine RunL.still rfl rfl rfl (Still.nilCheck rfl rfl) ?_
                    refine RunL.still rfl rfl rfl (Still.fieldAddrL (off := 0) (off' := 1) rfl rfl Tryz.underlying75 rfl Tryz.sizeOf3 rfl) ?_
                    refine RunL.still rfl rfl rfl (Still.load rfl rfl Tryz.isAgg3 (fun _ hs => cell_nth (hs.at (i := 0) rfl) rfl)) ?_
                    refine RunL.still rfl rfl rfl (Still.move rfl rfl) ?_
                    refine RunL.still rfl rfl rfl (Still.lenStr rfl rfl Tryz.underlying9) ?_
                    refine RunL.still rfl rfl rfl (Still.neq rfl rfl rfl) ?_
                    refine RunL.still rfl rfl rfl (Still.pickF rfl rfl rfl) ?_
                    refine RunL.nil ?_
                    exact Ends.meet1 (Fr.Sub.cons (by first | (rw [readB_eq hR, h89, Bool.false_and]; rfl) | (rw [readB_eq hR, h89, Bool.true_and, dec_ne]; rfl)) (Fr.Sub.nil _)) (Fr.Sub.cons rfl (Fr.Sub.cons rfl (Fr.Sub.nil _))) (HSub.pick 0 rfl (HSub.pick 0 rfl (HSub.pick 0 rfl (HSub.pick 0 rfl (HSub.pick 0 rfl (HSub.pick 0 rfl (HSub.nil _)))))))
                ·
                  refine Ends.then ?_
                  refine RunC.cond rfl (fun h97 => ?_) (fun h97 => ?_)
                  · have hb : readB t = false := bnot_t h97
                    refine RunC.seq ?_
                    refine RunC.region ?_
                    refine RunL.still rfl rfl rfl (Still.build_0 (.agg #[.slice none 0 0, .int .i64 0]) rfl (fun _ => by kernel_rfl)) ?_
                    refine RunL.does0 rfl rfl (Does.store rfl rfl rfl (i := 5) rfl Tryz.sizeOf24 rfl (rfl) rfl) (fun _ _ => ?_)
                    refine RunL.still rfl rfl rfl (Still.assign rfl rfl) ?_
                    refine RunL.nil ?_
                    refine Ends.then ?_
                    refine RunC.ret ?_
                    refine Ends.then_ret ?_
                    have E := errR_2 (t := t) (by omega) hb
                    refine Ends.leave (.inl rfl) (fun _ _ ok => results2 Tryz.results12 (Holds.cell rfl (fun _ hs => load_cells (vs := [_, _]) Tryz.isAgg24 Tryz.sizeOf24 rfl (cells_nth (hs.at (i := 5) rfl) ⟨rfl, ⟨rfl, trivial⟩⟩))) (Holds.tmp rfl) ok) (fun w8 hs => ?_)
                    have hs := hs.own_nil 62 5
                    exact Ret.intro (none, 0) (by rw [E.2]; exact fun h => absurd h (Nat.lt_irrefl 0)) (by rw [E.1, E.2]; rfl) (HSub.pick 0 (by rw [E.2]; rfl) (HSub.nil _)) hs
                  · have hb : readB t = true := bnot_f h97
                    have hrd := readR_some hR hb
                    refine RunC.know (fun _ hs => own_shape (hs.own (i := 4) rfl)) (fun hsh => ?_)
                    obtain ⟨vb, vc, hvv, hvb⟩ := hsh
                    subst hvv
                    refine RunC.skip ?_
                    refine Ends.then ?_
                    refine RunC.seq ?_
                    refine RunC.seq ?_
                    refine RunC.region ?_
                    refine RunL.still rfl rfl rfl (Still.loads rfl rfl Tryz.isAgg24 Tryz.sizeOf24 (vs := [_, _]) rfl (fun _ hs => cells_nth (hs.at (i := 3) rfl) ⟨rfl, ⟨rfl, trivial⟩⟩)) ?_
                    refine RunL.grows rfl rfl rfl (Grows.call (vs := #[_]) rfl rfl Tryz.call8 (fun w hs => ref_Check vb (vaddr (.slice vb ye.length vc)) vc ⟨ye, ((numP t pe).2 : Nat)⟩ w (DiaAt.of_ownW (g := (vb, vc)) (d := ⟨ye, ((numP t pe).2 : Nat)⟩) hyw (num_in64 t pe) (by show ye.length ≤ _; omega) (hs.at (i := 4) rfl)))) (fun _ _ => ?_)
                    refine RunL.still rfl rfl rfl (Still.assign rfl rfl) ?_
                    refine RunL.nil ?_
                    refine Ends.then ?_
                    refine RunC.seq ?_
                    refine RunC.region ?_
                    refine RunL.still rfl rfl rfl (Still.move rfl rfl) ?_
                    refine RunL.still rfl rfl rfl (Still.neq rfl rfl rfl) ?_
                    refine RunL.nil ?_
                    refine Ends.then ?_
                    refine RunC.cond rfl (fun h102 => ?_) (fun h102 => ?_)
                    · have h102 := of_decide_eq_true h102
                      refine RunC.seq ?_
                      refine RunC.region ?_
                      refine RunL.still rfl rfl rfl (Still.build_0 (.agg #[.slice none 0 0, .int .i64 0]) rfl (fun _ => by kernel_rfl)) ?_
                      refine RunL.still rfl rfl rfl (Still.move rfl rfl) ?_
                      refine RunL.does0 rfl rfl (Does.store rfl rfl rfl (i := 5) rfl Tryz.sizeOf24 rfl (rfl) rfl) (fun _ _ => ?_)
                      refine RunL.still rfl rfl rfl (Still.assign rfl rfl) ?_
                      refine RunL.nil ?_
                      refine Ends.then ?_
                      refine RunC.ret ?_
                      refine Ends.then_ret ?_
                      have E := errR_3 (t := t) (by omega) hrd h102
                      refine Ends.leave (.inl rfl) (fun _ _ ok => results2 Tryz.results12 (Holds.cell rfl (fun _ hs => load_cells (vs := [_, _]) Tryz.isAgg24 Tryz.sizeOf24 rfl (cells_nth (hs.at (i := 5) rfl) ⟨rfl, ⟨rfl, trivial⟩⟩))) (Holds.tmp rfl) ok) (fun w9 hs => ?_)
                      have hs := hs.own_nil 62 5
                      exact Ret.intro (none, 0) (by rw [E.2]; exact fun h => absurd h (Nat.lt_irrefl 0)) (by rw [E.1, E.2]; rfl) (HSub.pick 0 (by rw [E.2]; rfl) (HSub.nil _)) hs
                    · have h102 := of_decide_eq_false h102
                      refine RunC.skip ?_
                      refine Ends.then ?_
                      refine RunC.seq ?_
                      refine RunC.region ?_
                      refine RunL.still rfl rfl rfl (Still.loads rfl rfl Tryz.isAgg24 Tryz.sizeOf24 (vs := [_, _]) rfl (fun _ hs => cells_nth (hs.at (i := 3) rfl) ⟨rfl, ⟨rfl, trivial⟩⟩)) ?_
                      refine RunL.does0 rfl rfl (Does.store rfl rfl rfl (i := 5) rfl Tryz.sizeOf24 rfl (rfl) rfl) (fun _ _ => ?_)
                      refine RunL.still rfl rfl rfl (Still.assign rfl rfl) ?_
                      refine RunL.nil ?_
                      refine Ends.then ?_
                      refine RunC.ret ?_
                      have E := errR_4 (t := t) (by omega) hrd (Decidable.not_not.1 h102)
                      refine Ends.leave (.inl rfl) (fun _ _ ok => results2 Tryz.results12 (Holds.cell rfl (fun _ hs => load_cells (vs := [_, _]) Tryz.isAgg24 Tryz.sizeOf24 rfl (cells_nth (hs.at (i := 5) rfl) ⟨rfl, ⟨rfl, trivial⟩⟩))) (Holds.tmp rfl) ok) (fun w10 hs => ?_)
                      exact Ret.intro (vb, vc) (by rw [E.2]; exact hvb) (by rw [E.1, E.2]) (HSub.pick 4 (by rw [E.2]; rfl) (HSub.nil _)) hs
              · skip
                refine RunL.off rfl rfl rfl ?_
                refine RunL.off rfl rfl rfl ?_
                refine RunL.still rfl rfl rfl (Still.pickF rfl rfl rfl) ?_
                refine RunL.still rfl rfl rfl (Still.nilCheck rfl rfl) ?_
                refine RunL.still rfl rfl rfl (Still.fieldAddrL (off := 0) (off' := 2) rfl rfl Tryz.underlying75 rfl Tryz.sizeOf4 rfl) ?_
                refine RunL.does0 rfl rfl (Does.store1 rfl rfl rfl (i := 0) rfl Tryz.sizeOf4 (rfl) (rfl)) (fun _ _ => ?_)
                obtain ⟨ye, pe, oke, hR, e1, e2, e3, hpe, hyw, hyl⟩ : ∃ ye pe oke, rdR t = ⟨ye, pe, oke⟩ ∧ ye = (xs ++ [cr4 (arcsR t (p + 1) 4).l sg]) ∧ pe = (if (arcsR t (p + 1) 4).ok = true then takeP t (arcsR t (p + 1) 4).p barS else (arcsR t (p + 1) 4).p) ∧ oke = ((arcsR t (p + 1) 4).ok && takesB t (arcsR t (p + 1) 4).p barS) ∧ pe ≤ t.size ∧ (∀ x ∈ ye, x.Wf) ∧ ye.length ≤ t.size := ⟨_, _, _, hI.barR hgo h69, rfl, rfl, rfl, by have h1 := takeP_le (s := barS) hpk.2; have h2 := hpk.2; split <;> assumption, wf_snoc hxw (cr4_wf hsgv), by rw [List.length_append]; show xs.length + 1 ≤ _; omega⟩
                refine RunL.conv (fun _ hs => hs.re 0 rfl (show _ = HL.obj b15 (.cells #[.string t, iv (pe : Nat), .bool oke] 75 (0, 0)) from by rw [e2, e3, h75]; try (first | (rw [htq]; rfl) | rfl))) ?_
                refine RunL.conv (fun _ hs => hs.re 4 rfl (show _ = HL.own 62 5 _ ye.length (ye.flatMap encCr) from by rw [e1]; try (first | rfl | (rw [List.length_append]; rfl)))) ?_
                refine RunL.nil ?_
                refine Ends.then ?_
                refine RunC.exit ?_
                refine Ends.block_out rfl ?_
                refine Ends.then_exit ?_
                refine Ends.block_exit ?_
                refine Ends.then ?_
                refine RunC.seq ?_
                refine RunC.region ?_
                refine RunL.still rfl rfl rfl (Still.move rfl rfl) ?_
                refine RunL.does rfl rfl rfl (Does.call (vs := #[_]) (K := [_]) (R := [_, _, _, _, _]) (S' := (fun c => c = b15)) rfl rfl Tryz.call43 (HSub.pick 0 rfl (HSub.pick 0 rfl (HSub.pick 0 rfl (HSub.pick 0 rfl (HSub.pick 0 rfl (HSub.pick 0 rfl (HSub.nil _))))))) (fun c hc => ⟨_, List.mem_cons_self .., hc⟩) (fun w hs => number_call b15 t pe oke w hs rfl (by omega) (hpe))) (fun _ _ => ?_)
                refine RunL.still rfl rfl rfl (Still.fieldAddrL (off := 0) (off' := 1) rfl rfl Tryz.underlying24 rfl Tryz.sizeOf3 rfl) ?_
                refine RunL.does0 rfl rfl (Does.store1 rfl rfl rfl (i := 3) rfl Tryz.sizeOf3 (rfl) (rfl)) (fun _ _ => ?_)
                refine RunL.nil ?_
                refine Ends.then ?_
                refine RunC.seq ?_
                refine RunC.seq ?_
                refine RunC.meet1 (chg := [(97, .bool (!(readB t)))]) (keep := [(2, _), (5, _)]) (hkeep := [_, _, _, _, _, _]) (Fr.Sub.cons rfl (Fr.Sub.cons rfl (Fr.Sub.nil _))) (HSub.pick 0 rfl (HSub.pick 0 rfl (HSub.pick 0 rfl (HSub.pick 0 rfl (HSub.pick 0 rfl (HSub.pick 0 rfl (HSub.nil _))))))) ?_ ?_
                ·
                  refine RunC.region ?_
                  refine RunL.still rfl rfl rfl (Still.move rfl rfl) ?_
                  refine RunL.still rfl rfl rfl (Still.nilCheck rfl rfl) ?_
                  refine RunL.still rfl rfl rfl (Still.fieldAddrL (off := 0) (off' := 2) rfl rfl Tryz.underlying75 rfl Tryz.sizeOf4 rfl) ?_
                  refine RunL.still rfl rfl rfl (Still.load rfl rfl Tryz.isAgg4 (fun _ hs => cell_nth (hs.at (i := 0) rfl) rfl)) ?_
                  refine RunL.still rfl rfl rfl (Still.not rfl rfl) ?_
                  refine RunL.still rfl rfl rfl (Still.move rfl rfl) ?_
                  refine RunL.split (t := 89) rfl (fun h89 => ?_) (fun h89 => ?_)
                  · have h89 : (oke && numOk t pe) = false := bnot_t h89
                    refine RunL.off rfl rfl rfl ?_
                    refine RunL.off rfl rfl rfl ?_
                    refine RunL.off rfl rfl rfl ?_
                    refine RunL.off rfl rfl rfl ?_
                    refine RunL.off rfl rfl rfl ?_
                    refine RunL.off rfl rfl rfl ?_
                    refine RunL.off rfl rfl rfl ?_
                    refine RunL.still rfl rfl rfl (Still.pickT rfl rfl rfl) ?_
                    refine RunL.nil ?_
                    exact Ends.meet1 (Fr.Sub.cons (by first | (rw [readB_eq hR, h89, Bool.false_and]; rfl) | (rw [readB_eq hR, h89, Bool.true_and, dec_ne]; rfl)) (Fr.Sub.nil _)) (Fr.Sub.cons rfl (Fr.Sub.cons rfl (Fr.Sub.nil _))) (HSub.pick 0 rfl (HSub.pick 0 rfl (HSub.pick 0 rfl (HSub.pick 0 rfl (HSub.pick 0 rfl (HSub.pick 0 rfl (HSub.nil _)))))))
                  · have h89 : (oke && numOk t pe) = true := bnot_f h89
                    refine RunL.still rfl rfl rfl (Still.move rfl rfl) ?_
                    refine RunL.still rfl rfl rfl (Still.nilCheck rfl rfl) ?_
                    refine RunL.still rfl rfl rfl (Still.fieldAddrL (off := 0) (off' := 1) rfl rfl Tryz.underlying75 rfl Tryz.sizeOf3 rfl) ?_
                    refine RunL.still rfl rfl rfl (Still.load rfl rfl Tryz.isAgg3 (fun _ hs => cell_nth (hs.at (i := 0) rfl) rfl)) ?_
                    refine RunL.still rfl rfl rfl (Still.move rfl rfl) ?_
                    refine RunL.still rfl rfl rfl (Still.lenStr rfl rfl Tryz.underlying9) ?_
                    refine RunL.still rfl rfl rfl (Still.neq rfl rfl rfl) ?_
                    refine RunL.still rfl rfl rfl (Still.pickF rfl rfl rfl) ?_
                    refine RunL.nil ?_
                    exact Ends.meet1 (Fr.Sub.cons (by first | (rw [readB_eq hR, h89, Bool.false_and]; rfl) | (rw [readB_eq hR, h89, Bool.true_and, dec_ne]; rfl)) (Fr.Sub.nil _)) (Fr.Sub.cons rfl (Fr.Sub.cons rfl (Fr.Sub.nil _))) (HSub.pick 0 rfl (HSub.pick 0 rfl (HSub.pick 0 rfl (HSub.pick 0 rfl (HSub.pick 0 rfl (HSub.pick 0 rfl (HSub.nil _)))))))
                ·
                  refine Ends.then ?_
                  refine RunC.cond rfl (fun h97 => ?_) (fun h97 => ?_)
                  · have hb : readB t = false := bnot_t h97
                    refine RunC.seq ?_
                    refine RunC.region ?_
                    refine RunL.still rfl rfl rfl (Still.build_0 (.agg #[.slice none 0 0, .int .i64 0]) rfl (fun _ => by kernel_rfl)) ?_
                    refine RunL.does0 rfl rfl (Does.store rfl rfl rfl (i := 5) rfl Tryz.sizeOf24 rfl (rfl) rfl) (fun _ _ => ?_)
                    refine RunL.still rfl rfl rfl (Still.assign rfl rfl) ?_
                    refine RunL.nil ?_
                    refine Ends.then ?_
                    refine RunC.ret ?_
                    refine Ends.then_ret ?_
                    have E := errR_2 (t := t) (by omega) hb
                    refine Ends.leave (.inl rfl) (fun _ _ ok => results2 Tryz.results12 (Holds.cell rfl (fun _ hs => load_cells (vs := [_, _]) Tryz.isAgg24 Tryz.sizeOf24 rfl (cells_nth (hs.at (i := 5) rfl) ⟨rfl, ⟨rfl, trivial⟩⟩))) (Holds.tmp rfl) ok) (fun w11 hs => ?_)
                    have hs := hs.own_nil 62 5
                    exact Ret.intro (none, 0) (by rw [E.2]; exact fun h => absurd h (Nat.lt_irrefl 0)) (by rw [E.1, E.2]; rfl) (HSub.pick 0 (by rw [E.2]; rfl) (HSub.nil _)) hs
                  · have hb : readB t = true := bnot_f h97
                    have hrd := readR_some hR hb
                    refine RunC.know (fun _ hs => own_shape (hs.own (i := 4) rfl)) (fun hsh => ?_)
                    obtain ⟨vb, vc, hvv, hvb⟩ := hsh
                    subst hvv
                    refine RunC.skip ?_
                    refine Ends.then ?_
                    refine RunC.seq ?_
                    refine RunC.seq ?_
                    refine RunC.region ?_
                    refine RunL.still rfl rfl rfl (Still.loads rfl rfl Tryz.isAgg24 Tryz.sizeOf24 (vs := [_, _]) rfl (fun _ hs => cells_nth (hs.at (i := 3) rfl) ⟨rfl, ⟨rfl, trivial⟩⟩)) ?_
                    refine RunL.grows rfl rfl rfl (Grows.call (vs := #[_]) rfl rfl Tryz.call8 (fun w hs => ref_Check vb (vaddr (.slice vb ye.length vc)) vc ⟨ye, ((numP t pe).2 : Nat)⟩ w (DiaAt.of_ownW (g := (vb, vc)) (d := ⟨ye, ((numP t pe).2 : Nat)⟩) hyw (num_in64 t pe) (by show ye.length ≤ _; omega) (hs.at (i := 4) rfl)))) (fun _ _ => ?_)
                    refine RunL.still rfl rfl rfl (Still.assign rfl rfl) ?_
                    refine RunL.nil ?_
                    refine Ends.then ?_
                    refine RunC.seq ?_
                    refine RunC.region ?_
                    refine RunL.still rfl rfl rfl (Still.move rfl rfl) ?_
                    refine RunL.still rfl rfl rfl (Still.neq rfl rfl rfl) ?_
                    refine RunL.nil ?_
                    refine Ends.then ?_
                    refine RunC.cond rfl (fun h102 => ?_) (fun h102 => ?_)
                    · have h102 := of_decide_eq_true h102
                      refine RunC.seq ?_
                      refine RunC.region ?_
                      refine RunL.still rfl rfl rfl (Still.build_0 (.agg #[.slice none 0 0, .int .i64 0]) rfl (fun _ => by kernel_rfl)) ?_
                      refine RunL.still rfl rfl rfl (Still.move rfl rfl) ?_
                      refine RunL.does0 rfl rfl (Does.store rfl rfl rfl (i := 5) rfl Tryz.sizeOf24 rfl (rfl) rfl) (fun _ _ => ?_)
                      refine RunL.still rfl rfl rfl (Still.assign rfl rfl) ?_
                      refine RunL.nil ?_
                      refine Ends.then ?_
                      refine RunC.ret ?_
                      refine Ends.then_ret ?_
                      have E := errR_3 (t := t) (by omega) hrd h102
                      refine Ends.leave (.inl rfl) (fun _ _ ok => results2 Tryz.results12 (Holds.cell rfl (fun _ hs => load_cells (vs := [_, _]) Tryz.isAgg24 Tryz.sizeOf24 rfl (cells_nth (hs.at (i := 5) rfl) ⟨rfl, ⟨rfl, trivial⟩⟩))) (Holds.tmp rfl) ok) (fun w12 hs => ?_)
                      have hs := hs.own_nil 62 5
                      exact Ret.intro (none, 0) (by rw [E.2]; exact fun h => absurd h (Nat.lt_irrefl 0)) (by rw [E.1, E.2]; rfl) (HSub.pick 0 (by rw [E.2]; rfl) (HSub.nil _)) hs
                    · have h102 := of_decide_eq_false h102
                      refine RunC.skip ?_
                      refine Ends.then ?_
                      refine RunC.seq ?_
                      refine RunC.region ?_
                      refine RunL.still rfl rfl rfl (Still.loads rfl rfl Tryz.isAgg24 Tryz.sizeOf24 (vs := [_, _]) rfl (fun _ hs => cells_nth (hs.at (i := 3) rfl) ⟨rfl, ⟨rfl, trivial⟩⟩)) ?_
                      refine RunL.does0 rfl rfl (Does.store rfl rfl rfl (i := 5) rfl Tryz.sizeOf24 rfl (rfl) rfl) (fun _ _ => ?_)
                      refine RunL.still rfl rfl rfl (Still.assign rfl rfl) ?_
                      refine RunL.nil ?_
                      refine Ends.then ?_
                      refine RunC.ret ?_
                      have E := errR_4 (t := t) (by omega) hrd (Decidable.not_not.1 h102)
                      refine Ends.leave (.inl rfl) (fun _ _ ok => results2 Tryz.results12 (Holds.cell rfl (fun _ hs => load_cells (vs := [_, _]) Tryz.isAgg24 Tryz.sizeOf24 rfl (cells_nth (hs.at (i := 5) rfl) ⟨rfl, ⟨rfl, trivial⟩⟩))) (Holds.tmp rfl) ok) (fun w13 hs => ?_)
                      exact Ret.intro (vb, vc) (by rw [E.2]; exact hvb) (by rw [E.1, E.2]) (HSub.pick 4 (by rw [E.2]; rfl) (HSub.nil _)) hs
            · have h69 : takesB t (arcsR t (p + 1) 4).p semiS = true := bnot_f h69
              refine RunC.skip ?_
              refine Ends.block ?_
              refine Ends.again (v65, xs ++ [cr4 (arcsR t (p + 1) 4).l sg], takeP t (arcsR t (p + 1) 4).p semiS, (arcsR t (p + 1) 4).ok, f) ?_ ?_ (Fr.Sub.app ?_ ?_) ?_
              · exact hI.next hgo h69 hpk hsgv
              · show t.size + 1 - takeP t (arcsR t (p + 1) 4).p semiS < t.size + 1 - p; have := takeP_ge t (arcsR t (p + 1) 4).p semiS; omega
              · exact Fr.Sub.nil _
              · exact Fr.Sub.cons rfl (Fr.Sub.cons rfl (Fr.Sub.cons rfl (Fr.Sub.cons rfl (Fr.Sub.nil _))))
              · exact HSub.pick 0 rfl (HSub.pick 2 rfl (HSub.pick 2 (by rw [List.length_append]; rfl) (HSub.pick 2 rfl (HSub.nil _))))
        · rw [htp] at h26
          have htp2 := takeP_f h26
          refine RunC.seq ?_
          refine RunC.region ?_
          refine RunL.still rfl rfl rfl (Still.move rfl rfl) ?_
          refine RunL.still rfl rfl rfl (Still.move rfl rfl) ?_
          refine RunL.still rfl rfl rfl (Still.nilCheck rfl rfl) ?_
          refine RunL.still rfl rfl rfl (Still.fieldAddrL (off := 0) (off' := 2) rfl rfl Tryz.underlying75 rfl Tryz.sizeOf4 rfl) ?_
          refine RunL.still rfl rfl rfl (Still.load rfl rfl Tryz.isAgg4 (fun _ hs => cell_nth (hs.at (i := 0) rfl) rfl)) ?_
          refine RunL.still rfl rfl rfl (Still.move rfl rfl) ?_
          refine RunL.split (t := 33) rfl (fun h33 => ?_) (fun h33 => ?_)
          · skip
            refine RunL.still rfl rfl rfl (Still.fieldAddrL (off := 0) (off' := 0) rfl rfl Tryz.underlying24 rfl Tryz.sizeOf22 rfl) ?_
            refine RunL.still rfl rfl rfl (Still.load rfl rfl Tryz.isAgg22 (fun _ hs => cell_nth (hs.at (i := 2) rfl) rfl)) ?_
            refine RunL.still rfl rfl rfl (Still.lenOwn rfl rfl Tryz.underlying22 (fun _ hs => hs.own (i := 3) rfl)) ?_
            refine RunL.still rfl rfl rfl (Still.eql rfl rfl rfl) ?_
            refine RunL.still rfl rfl rfl (Still.pickT rfl rfl rfl) ?_
            refine RunL.still rfl rfl rfl (Still.nilCheck rfl rfl) ?_
            refine RunL.still rfl rfl rfl (Still.fieldAddrL (off := 0) (off' := 2) rfl rfl Tryz.underlying75 rfl Tryz.sizeOf4 rfl) ?_
            refine RunL.does0 rfl rfl (Does.store1 rfl rfl rfl (i := 0) rfl Tryz.sizeOf4 (rfl) (rfl)) (fun _ _ => ?_)
            obtain ⟨ye, pe, oke, hR, e1, e2, e3, hpe, hyw, hyl⟩ : ∃ ye pe oke, rdR t = ⟨ye, pe, oke⟩ ∧ ye = xs ∧ pe = p ∧ oke = decide (xs.length = 0) ∧ pe ≤ t.size ∧ (∀ x ∈ ye, x.Wf) ∧ ye.length ≤ t.size := ⟨_, _, _, hI.endR h23 h26, rfl, rfl, rfl, hp, hxw, by omega⟩
            refine RunL.conv (fun _ hs => hs.re 0 rfl (show _ = HL.obj b15 (.cells #[.string t, iv (pe : Nat), .bool oke] 75 (0, 0)) from by rw [e2, e3, htp, htp2]; try exact congrArg (fun z => HL.obj b15 (.cells #[.string t, iv (p : Nat), .bool z] 75 (0, 0))) (decide_eq_decide.2 (by omega)))) ?_
            refine RunL.conv (fun _ hs => hs.re 3 rfl (show _ = HL.own 62 5 _ ye.length (ye.flatMap encCr) from by rw [e1]; try (first | rfl | (rw [List.length_append]; rfl)))) ?_
            refine RunL.nil ?_
            refine Ends.then ?_
            refine RunC.exit ?_
            refine Ends.then_exit ?_
            refine Ends.block_out rfl ?_
            refine Ends.then_exit ?_
            refine Ends.block_exit ?_
            refine Ends.then ?_
            refine RunC.seq ?_
            refine RunC.region ?_
            refine RunL.still rfl rfl rfl (Still.move rfl rfl) ?_
            refine RunL.does rfl rfl rfl (Does.call (vs := #[_]) (K := [_]) (R := [_, _, _, _]) (S' := (fun c => c = b15)) rfl rfl Tryz.call43 (HSub.pick 0 rfl (HSub.pick 0 rfl (HSub.pick 0 rfl (HSub.pick 0 rfl (HSub.pick 0 rfl (HSub.nil _)))))) (fun c hc => ⟨_, List.mem_cons_self .., hc⟩) (fun w hs => number_call b15 t pe oke w hs rfl (by omega) (hpe))) (fun _ _ => ?_)
            refine RunL.still rfl rfl rfl (Still.fieldAddrL (off := 0) (off' := 1) rfl rfl Tryz.underlying24 rfl Tryz.sizeOf3 rfl) ?_
            refine RunL.does0 rfl rfl (Does.store1 rfl rfl rfl (i := 2) rfl Tryz.sizeOf3 (rfl) (rfl)) (fun _ _ => ?_)
            refine RunL.nil ?_
            refine Ends.then ?_
            refine RunC.seq ?_
            refine RunC.seq ?_
            refine RunC.meet1 (chg := [(97, .bool (!(readB t)))]) (keep := [(2, _), (5, _)]) (hkeep := [_, _, _, _, _]) (Fr.Sub.cons rfl (Fr.Sub.cons rfl (Fr.Sub.nil _))) (HSub.pick 0 rfl (HSub.pick 0 rfl (HSub.pick 0 rfl (HSub.pick 0 rfl (HSub.pick 0 rfl (HSub.nil _)))))) ?_ ?_
            ·
              refine RunC.region ?_
              refine RunL.still rfl rfl rfl (Still.move rfl rfl) ?_
              refine RunL.still rfl rfl rfl (Still.nilCheck rfl rfl) ?_
              refine RunL.still rfl rfl rfl (Still.fieldAddrL (off := 0) (off' := 2) rfl rfl Tryz.underlying75 rfl Tryz.sizeOf4 rfl) ?_
              refine RunL.still rfl rfl rfl (Still.load rfl rfl Tryz.isAgg4 (fun _ hs => cell_nth (hs.at (i := 0) rfl) rfl)) ?_
              refine RunL.still rfl rfl rfl (Still.not rfl rfl) ?_
              refine RunL.still rfl rfl rfl (Still.move rfl rfl) ?_
              refine RunL.split (t := 89) rfl (fun h89 => ?_) (fun h89 => ?_)
              · have h89 : (oke && numOk t pe) = false := bnot_t h89
                refine RunL.off rfl rfl rfl ?_
                refine RunL.off rfl rfl rfl ?_
                refine RunL.off rfl rfl rfl ?_
                refine RunL.off rfl rfl rfl ?_
                refine RunL.off rfl rfl rfl ?_
                refine RunL.off rfl rfl rfl ?_
                refine RunL.off rfl rfl rfl ?_
                refine RunL.still rfl rfl rfl (Still.pickT rfl rfl rfl) ?_
                refine RunL.nil ?_
                exact Ends.meet1 (Fr.Sub.cons (by first | (rw [readB_eq hR, h89, Bool.false_and]; rfl) | (rw [readB_eq hR, h89, Bool.true_and, dec_ne]; rfl)) (Fr.Sub.nil _)) (Fr.Sub.cons rfl (Fr.Sub.cons rfl (Fr.Sub.nil _))) (HSub.pick 0 rfl (HSub.pick 0 rfl (HSub.pick 0 rfl (HSub.pick 0 rfl (HSub.pick 0 rfl (HSub.nil _))))))
              · have h89 : (oke && numOk t pe) = true := bnot_f h89
                refine RunL.still rfl rfl rfl (Still.move rfl rfl) ?_
                refine RunL.still rfl rfl rfl (Still.nilCheck rfl rfl) ?_
                refine RunL.still rfl rfl rfl (Still.fieldAddrL (off := 0) (off' := 1) rfl rfl Tryz.underlying75 rfl Tryz.sizeOf3 rfl) ?_
                refine RunL.still rfl rfl rfl (Still.load rfl rfl Tryz.isAgg3 (fun _ hs => cell_nth (hs.at (i := 0) rfl) rfl)) ?_
                refine RunL.still rfl rfl rfl (Still.move rfl rfl) ?_
                refine RunL.still rfl rfl rfl (Still.lenStr rfl rfl Tryz.underlying9) ?_
                refine RunL.still rfl rfl rfl (Still.neq rfl rfl rfl) ?_
                refine RunL.still rfl rfl rfl (Still.pickF rfl rfl rfl) ?_
                refine RunL.nil ?_
                exact Ends.meet1 (Fr.Sub.cons (by first | (rw [readB_eq hR, h89, Bool.false_and]; rfl) | (rw [readB_eq hR, h89, Bool.true_and, dec_ne]; rfl)) (Fr.Sub.nil _)) (Fr.Sub.cons rfl (Fr.Sub.cons rfl (Fr.Sub.nil _))) (HSub.pick 0 rfl (HSub.pick 0 rfl (HSub.pick 0 rfl (HSub.pick 0 rfl (HSub.pick 0 rfl (HSub.nil _))))))
            ·
              refine Ends.then ?_
              refine RunC.cond rfl (fun h97 => ?_) (fun h97 => ?_)
              · have hb : readB t = false := bnot_t h97
                refine RunC.seq ?_
                refine RunC.region ?_
                refine RunL.still rfl rfl rfl (Still.build_0 (.agg #[.slice none 0 0, .int .i64 0]) rfl (fun _ => by kernel_rfl)) ?_
                refine RunL.does0 rfl rfl (Does.store rfl rfl rfl (i := 4) rfl Tryz.sizeOf24 rfl (rfl) rfl) (fun _ _ => ?_)
                refine RunL.still rfl rfl rfl (Still.assign rfl rfl) ?_
                refine RunL.nil ?_
                refine Ends.then ?_
                refine RunC.ret ?_
                refine Ends.then_ret ?_
                have E := errR_2 (t := t) (by omega) hb
                refine Ends.leave (.inl rfl) (fun _ _ ok => results2 Tryz.results12 (Holds.cell rfl (fun _ hs => load_cells (vs := [_, _]) Tryz.isAgg24 Tryz.sizeOf24 rfl (cells_nth (hs.at (i := 4) rfl) ⟨rfl, ⟨rfl, trivial⟩⟩))) (Holds.tmp rfl) ok) (fun w14 hs => ?_)
                have hs := hs.own_nil 62 5
                exact Ret.intro (none, 0) (by rw [E.2]; exact fun h => absurd h (Nat.lt_irrefl 0)) (by rw [E.1, E.2]; rfl) (HSub.pick 0 (by rw [E.2]; rfl) (HSub.nil _)) hs
              · have hb : readB t = true := bnot_f h97
                have hrd := readR_some hR hb
                refine RunC.know (fun _ hs => own_shape (hs.own (i := 3) rfl)) (fun hsh => ?_)
                obtain ⟨vb, vc, hvv, hvb⟩ := hsh
                subst hvv
                refine RunC.skip ?_
                refine Ends.then ?_
                refine RunC.seq ?_
                refine RunC.seq ?_
                refine RunC.region ?_
                refine RunL.still rfl rfl rfl (Still.loads rfl rfl Tryz.isAgg24 Tryz.sizeOf24 (vs := [_, _]) rfl (fun _ hs => cells_nth (hs.at (i := 2) rfl) ⟨rfl, ⟨rfl, trivial⟩⟩)) ?_
                refine RunL.grows rfl rfl rfl (Grows.call (vs := #[_]) rfl rfl Tryz.call8 (fun w hs => ref_Check vb (vaddr (.slice vb ye.length vc)) vc ⟨ye, ((numP t pe).2 : Nat)⟩ w (DiaAt.of_ownW (g := (vb, vc)) (d := ⟨ye, ((numP t pe).2 : Nat)⟩) hyw (num_in64 t pe) (by show ye.length ≤ _; omega) (hs.at (i := 3) rfl)))) (fun _ _ => ?_)
                refine RunL.still rfl rfl rfl (Still.assign rfl rfl) ?_
                refine RunL.nil ?_
                refine Ends.then ?_
                refine RunC.seq ?_
                refine RunC.region ?_
                refine RunL.still rfl rfl rfl (Still.move rfl rfl) ?_
                refine RunL.still rfl rfl rfl (Still.neq rfl rfl rfl) ?_
                refine RunL.nil ?_
                refine Ends.then ?_
                refine RunC.cond rfl (fun h102 => ?_) (fun h102 => ?_)
                · have h102 := of_decide_eq_true h102
                  refine RunC.seq ?_
                  refine RunC.region ?_
                  refine RunL.still rfl rfl rfl (Still.build_0 (.agg #[.slice none 0 0, .int .i64 0]) rfl (fun _ => by kernel_rfl)) ?_
                  refine RunL.still rfl rfl rfl (Still.move rfl rfl) ?_
                  refine RunL.does0 rfl rfl (Does.store rfl rfl rfl (i := 4) rfl Tryz.sizeOf24 rfl (rfl) rfl) (fun _ _ => ?_)
                  refine RunL.still rfl rfl rfl (Still.assign rfl rfl) ?_
                  refine RunL.nil ?_
                  refine Ends.then ?_
                  refine RunC.ret ?_
                  refine Ends.then_ret ?_
                  have E := errR_3 (t := t) (by omega) hrd h102
                  refine Ends.leave (.inl rfl) (fun _ _ ok => results2 Tryz.results12 (Holds.cell rfl (fun _ hs => load_cells (vs := [_, _]) Tryz.isAgg24 Tryz.sizeOf24 rfl (cells_nth (hs.at (i := 4) rfl) ⟨rfl, ⟨rfl, trivial⟩⟩))) (Holds.tmp rfl) ok) (fun w15 hs => ?_)
                  have hs := hs.own_nil 62 5
                  exact Ret.intro (none, 0) (by rw [E.2]; exact fun h => absurd h (Nat.lt_irrefl 0)) (by rw [E.1, E.2]; rfl) (HSub.pick 0 (by rw [E.2]; rfl) (HSub.nil _)) hs
                · have h102 := of_decide_eq_false h102
                  refine RunC.skip ?_
                  refine Ends.then ?_
                  refine RunC.seq ?_
                  refine RunC.region ?_
                  refine RunL.still rfl rfl rfl (Still.loads rfl rfl Tryz.isAgg24 Tryz.sizeOf24 (vs := [_, _]) rfl (fun _ hs => cells_nth (hs.at (i := 2) rfl) ⟨rfl, ⟨rfl, trivial⟩⟩)) ?_
                  refine RunL.does0 rfl rfl (Does.store rfl rfl rfl (i := 4) rfl Tryz.sizeOf24 rfl (rfl) rfl) (fun _ _ => ?_)
                  refine RunL.still rfl rfl rfl (Still.assign rfl rfl) ?_
                  refine RunL.nil ?_
                  refine Ends.then ?_
                  refine RunC.ret ?_
                  have E := errR_4 (t := t) (by omega) hrd (Decidable.not_not.1 h102)
                  refine Ends.leave (.inl rfl) (fun _ _ ok => results2 Tryz.results12 (Holds.cell rfl (fun _ hs => load_cells (vs := [_, _]) Tryz.isAgg24 Tryz.sizeOf24 rfl (cells_nth (hs.at (i := 4) rfl) ⟨rfl, ⟨rfl, trivial⟩⟩))) (Holds.tmp rfl) ok) (fun w16 hs => ?_)
                  exact Ret.intro (vb, vc) (by rw [E.2]; exact hvb) (by rw [E.1, E.2]) (HSub.pick 3 (by rw [E.2]; rfl) (HSub.nil _)) hs
          · skip
            cases h33
    · have h20 : ok = false := h20
      subst h20
      obtain ⟨ye, pe, oke, hR, e1, e2, e3, hpe, hyw, hyl⟩ : ∃ ye pe oke, rdR t = ⟨ye, pe, oke⟩ ∧ ye = xs ∧ pe = p ∧ oke = false ∧ pe ≤ t.size ∧ (∀ x ∈ ye, x.Wf) ∧ ye.length ≤ t.size := ⟨_, _, _, hI.2.1 rfl, rfl, rfl, rfl, hp, hxw, by omega⟩
      refine RunC.conv (fun _ hs => hs.re 0 rfl (show _ = HL.obj b15 (.cells #[.string t, iv (pe : Nat), .bool oke] 75 (0, 0)) from by rw [e2, e3])) ?_
      refine RunC.conv (fun _ hs => hs.re 2 rfl (show _ = HL.own 62 5 _ ye.length (ye.flatMap encCr) from by rw [e1])) ?_
      refine RunC.exit ?_
      refine Ends.then_exit ?_
      refine Ends.then_exit ?_
      refine Ends.block_exit ?_
      refine Ends.then ?_
      refine RunC.seq ?_
      refine RunC.region ?_
      refine RunL.still rfl rfl rfl (Still.move rfl rfl) ?_
      refine RunL.does rfl rfl rfl (Does.call (vs := #[_]) (K := [_]) (R := [_, _, _]) (S' := (fun c => c = b15)) rfl rfl Tryz.call43 (HSub.pick 0 rfl (HSub.pick 0 rfl (HSub.pick 0 rfl (HSub.pick 0 rfl (HSub.nil _))))) (fun c hc => ⟨_, List.mem_cons_self .., hc⟩) (fun w hs => number_call b15 t pe oke w hs rfl (by omega) (hpe))) (fun _ _ => ?_)
      refine RunL.still rfl rfl rfl (Still.fieldAddrL (off := 0) (off' := 1) rfl rfl Tryz.underlying24 rfl Tryz.sizeOf3 rfl) ?_
      refine RunL.does0 rfl rfl (Does.store1 rfl rfl rfl (i := 1) rfl Tryz.sizeOf3 (rfl) (rfl)) (fun _ _ => ?_)
      refine RunL.nil ?_
      refine Ends.then ?_
      refine RunC.seq ?_
      refine RunC.seq ?_
      refine RunC.meet1 (chg := [(97, .bool (!(readB t)))]) (keep := [(2, _), (5, _)]) (hkeep := [_, _, _, _]) (Fr.Sub.cons rfl (Fr.Sub.cons rfl (Fr.Sub.nil _))) (HSub.pick 0 rfl (HSub.pick 0 rfl (HSub.pick 0 rfl (HSub.pick 0 rfl (HSub.nil _))))) ?_ ?_
      ·
        refine RunC.region ?_
        refine RunL.still rfl rfl rfl (Still.move rfl rfl) ?_
        refine RunL.still rfl rfl rfl (Still.nilCheck rfl rfl) ?_
        refine RunL.still rfl rfl rfl (Still.fieldAddrL (off := 0) (off' := 2) rfl rfl Tryz.underlying75 rfl Tryz.sizeOf4 rfl) ?_
        refine RunL.still rfl rfl rfl (Still.load rfl rfl Tryz.isAgg4 (fun _ hs => cell_nth (hs.at (i := 0) rfl) rfl)) ?_
        refine RunL.still rfl rfl rfl (Still.not rfl rfl) ?_
        refine RunL.still rfl rfl rfl (Still.move rfl rfl) ?_
        refine RunL.split (t := 89) rfl (fun h89 => ?_) (fun h89 => ?_)
        · have h89 : (oke && numOk t pe) = false := bnot_t h89
          refine RunL.off rfl rfl rfl ?_
          refine RunL.off rfl rfl rfl ?_
          refine RunL.off rfl rfl rfl ?_
          refine RunL.off rfl rfl rfl ?_
          refine RunL.off rfl rfl rfl ?_
          refine RunL.off rfl rfl rfl ?_
          refine RunL.off rfl rfl rfl ?_
          refine RunL.still rfl rfl rfl (Still.pickT rfl rfl rfl) ?_
          refine RunL.nil ?_
          exact Ends.meet1 (Fr.Sub.cons (by first | (rw [readB_eq hR, h89, Bool.false_and]; rfl) | (rw [readB_eq hR, h89, Bool.true_and, dec_ne]; rfl)) (Fr.Sub.nil _)) (Fr.Sub.cons rfl (Fr.Sub.cons rfl (Fr.Sub.nil _))) (HSub.pick 0 rfl (HSub.pick 0 rfl (HSub.pick 0 rfl (HSub.pick 0 rfl (HSub.nil _)))))
        · have h89 : (oke && numOk t pe) = true := bnot_f h89
          refine RunL.still rfl rfl rfl (Still.move rfl rfl) ?_
          refine RunL.still rfl rfl rfl (Still.nilCheck rfl rfl) ?_
          refine RunL.still rfl rfl rfl (Still.fieldAddrL (off := 0) (off' := 1) rfl rfl Tryz.underlying75 rfl Tryz.sizeOf3 rfl) ?_
          refine RunL.still rfl rfl rfl (Still.load rfl rfl Tryz.isAgg3 (fun _ hs => cell_nth (hs.at (i := 0) rfl) rfl)) ?_
          refine RunL.still rfl rfl rfl (Still.move rfl rfl) ?_
          refine RunL.still rfl rfl rfl (Still.lenStr rfl rfl Tryz.underlying9) ?_
          refine RunL.still rfl rfl rfl (Still.neq rfl rfl rfl) ?_
          refine RunL.still rfl rfl rfl (Still.pickF rfl rfl rfl) ?_
          refine RunL.nil ?_
          exact Ends.meet1 (Fr.Sub.cons (by first | (rw [readB_eq hR, h89, Bool.false_and]; rfl) | (rw [readB_eq hR, h89, Bool.true_and, dec_ne]; rfl)) (Fr.Sub.nil _)) (Fr.Sub.cons rfl (Fr.Sub.cons rfl (Fr.Sub.nil _))) (HSub.pick 0 rfl (HSub.pick 0 rfl (HSub.pick 0 rfl (HSub.pick 0 rfl (HSub.nil _)))))
      ·
        refine Ends.then ?_
        refine RunC.cond rfl (fun h97 => ?_) (fun h97 => ?_)
        · have hb : readB t = false := bnot_t h97
          refine RunC.seq ?_
          refine RunC.region ?_
          refine RunL.still rfl rfl rfl (Still.build_0 (.agg #[.slice none 0 0, .int .i64 0]) rfl (fun _ => by kernel_rfl)) ?_
          refine RunL.does0 rfl rfl (Does.store rfl rfl rfl (i := 3) rfl Tryz.sizeOf24 rfl (rfl) rfl) (fun _ _ => ?_)
          refine RunL.still rfl rfl rfl (Still.assign rfl rfl) ?_
          refine RunL.nil ?_
          refine Ends.then ?_
          refine RunC.ret ?_
          refine Ends.then_ret ?_
          have E := errR_2 (t := t) (by omega) hb
          refine Ends.leave (.inl rfl) (fun _ _ ok => results2 Tryz.results12 (Holds.cell rfl (fun _ hs => load_cells (vs := [_, _]) Tryz.isAgg24 Tryz.sizeOf24 rfl (cells_nth (hs.at (i := 3) rfl) ⟨rfl, ⟨rfl, trivial⟩⟩))) (Holds.tmp rfl) ok) (fun w17 hs => ?_)
          have hs := hs.own_nil 62 5
          exact Ret.intro (none, 0) (by rw [E.2]; exact fun h => absurd h (Nat.lt_irrefl 0)) (by rw [E.1, E.2]; rfl) (HSub.pick 0 (by rw [E.2]; rfl) (HSub.nil _)) hs
        · have hb : readB t = true := bnot_f h97
          have hrd := readR_some hR hb
          refine RunC.know (fun _ hs => own_shape (hs.own (i := 2) rfl)) (fun hsh => ?_)
          obtain ⟨vb, vc, hvv, hvb⟩ := hsh
          subst hvv
          refine RunC.skip ?_
          refine Ends.then ?_
          refine RunC.seq ?_
          refine RunC.seq ?_
          refine RunC.region ?_
          refine RunL.still rfl rfl rfl (Still.loads rfl rfl Tryz.isAgg24 Tryz.sizeOf24 (vs := [_, _]) rfl (fun _ hs => cells_nth (hs.at (i := 1) rfl) ⟨rfl, ⟨rfl, trivial⟩⟩)) ?_
          refine RunL.grows rfl rfl rfl (Grows.call (vs := #[_]) rfl rfl Tryz.call8 (fun w hs => ref_Check vb (vaddr (.slice vb ye.length vc)) vc ⟨ye, ((numP t pe).2 : Nat)⟩ w (DiaAt.of_ownW (g := (vb, vc)) (d := ⟨ye, ((numP t pe).2 : Nat)⟩) hyw (num_in64 t pe) (by show ye.length ≤ _; omega) (hs.at (i := 2) rfl)))) (fun _ _ => ?_)
          refine RunL.still rfl rfl rfl (Still.assign rfl rfl) ?_
          refine RunL.nil ?_
          refine Ends.then ?_
          refine RunC.seq ?_
          refine RunC.region ?_
          refine RunL.still rfl rfl rfl (Still.move rfl rfl) ?_
          refine RunL.still rfl rfl rfl (Still.neq rfl rfl rfl) ?_
          refine RunL.nil ?_
          refine Ends.then ?_
          refine RunC.cond rfl (fun h102 => ?_) (fun h102 => ?_)
          · have h102 := of_decide_eq_true h102
            refine RunC.seq ?_
            refine RunC.region ?_
            refine RunL.still rfl rfl rfl (Still.build_0 (.agg #[.slice none 0 0, .int .i64 0]) rfl (fun _ => by kernel_rfl)) ?_
            refine RunL.still rfl rfl rfl (Still.move rfl rfl) ?_
            refine RunL.does0 rfl rfl (Does.store rfl rfl rfl (i := 3) rfl Tryz.sizeOf24 rfl (rfl) rfl) (fun _ _ => ?_)
            refine RunL.still rfl rfl rfl (Still.assign rfl rfl) ?_
            refine RunL.nil ?_
            refine Ends.then ?_
            refine RunC.ret ?_
            refine Ends.then_ret ?_
            have E := errR_3 (t := t) (by omega) hrd h102
            refine Ends.leave (.inl rfl) (fun _ _ ok => results2 Tryz.results12 (Holds.cell rfl (fun _ hs => load_cells (vs := [_, _]) Tryz.isAgg24 Tryz.sizeOf24 rfl (cells_nth (hs.at (i := 3) rfl) ⟨rfl, ⟨rfl, trivial⟩⟩))) (Holds.tmp rfl) ok) (fun w18 hs => ?_)
            have hs := hs.own_nil 62 5
            exact Ret.intro (none, 0) (by rw [E.2]; exact fun h => absurd h (Nat.lt_irrefl 0)) (by rw [E.1, E.2]; rfl) (HSub.pick 0 (by rw [E.2]; rfl) (HSub.nil _)) hs
          · have h102 := of_decide_eq_false h102
            refine RunC.skip ?_
            refine Ends.then ?_
            refine RunC.seq ?_
            refine RunC.region ?_
            refine RunL.still rfl rfl rfl (Still.loads rfl rfl Tryz.isAgg24 Tryz.sizeOf24 (vs := [_, _]) rfl (fun _ hs => cells_nth (hs.at (i := 1) rfl) ⟨rfl, ⟨rfl, trivial⟩⟩)) ?_
            refine RunL.does0 rfl rfl (Does.store rfl rfl rfl (i := 3) rfl Tryz.sizeOf24 rfl (rfl) rfl) (fun _ _ => ?_)
            refine RunL.still rfl rfl rfl (Still.assign rfl rfl) ?_
            refine RunL.nil ?_
            refine Ends.then ?_
            refine RunC.ret ?_
            have E := errR_4 (t := t) (by omega) hrd (Decidable.not_not.1 h102)
            refine Ends.leave (.inl rfl) (fun _ _ ok => results2 Tryz.results12 (Holds.cell rfl (fun _ hs => load_cells (vs := [_, _]) Tryz.isAgg24 Tryz.sizeOf24 rfl (cells_nth (hs.at (i := 3) rfl) ⟨rfl, ⟨rfl, trivial⟩⟩))) (Holds.tmp rfl) ok) (fun w19 hs => ?_)
            exact Ret.intro (vb, vc) (by rw [E.2]; exact hvb) (by rw [E.1, E.2]) (HSub.pick 2 (by rw [E.2]; rfl) (HSub.nil _)) hs

end Go.Proofs
/- Texts of diagrams: what the program reads. -/
namespace Go.V
open Go
/-- The text of a number from 0 to 1000. -/
def Num (s : ByteArray) (v : Int) : Prop := 0 ≤ v ∧ v ≤ 1000 ∧ s = numS v
theorem Num.size {s : ByteArray} {v : Int} (h : Num s v) : s.size ≤ 1001 := by rw [h.2.2]; exact numS_mid h.1 h.2.1
theorem dig_byte {k : Nat} (h : k < 10) : (UInt8.ofNat (48 + k)).toNat = 48 + k := by rw [UInt8.toNat_ofNat']; omega
theorem parse_dig (u acc : Nat) (h : acc * 10 ^ (Lib.decDigits u).length + u < 1844674407370955162) (l : List UInt8) : Lib.parseUint10 acc (Lib.decDigits u ++ l) = Lib.parseUint10 (acc * 10 ^ (Lib.decDigits u).length + u) l := by
  induction u using Nat.strongRecOn generalizing acc l with
  | ind u ih =>
    by_cases hu : u < 10
    · rw [Lib.decDigits_one hu] at h ⊢
      simp only [List.length_singleton, Nat.pow_one, List.cons_append, List.nil_append] at h ⊢
      have hb := dig_byte hu
      rw [Lib.parseUint10, if_pos (by omega), if_neg (by omega), if_neg (by omega), hb]
      congr 1; omega
    · have e : Lib.decDigits u = Lib.decDigits (u / 10) ++ [UInt8.ofNat (48 + u % 10)] := by rw [Lib.decDigits, dif_neg hu]
      have hl : (Lib.decDigits u).length = (Lib.decDigits (u / 10)).length + 1 := by rw [e]; simp
      rw [hl, Nat.pow_succ] at h
      rw [hl, Nat.pow_succ, e, List.append_assoc, ih (u / 10) (by omega) acc (by
        have h1 : acc * (10 ^ (Lib.decDigits (u / 10)).length * 10) = acc * 10 ^ (Lib.decDigits (u / 10)).length * 10 := by rw [Nat.mul_assoc]
        omega)]
      have hb := dig_byte (Nat.mod_lt u (show 0 < 10 by omega))
      have h1 : acc * (10 ^ (Lib.decDigits (u / 10)).length * 10) = acc * 10 ^ (Lib.decDigits (u / 10)).length * 10 := by rw [Nat.mul_assoc]
      rw [h1] at h ⊢
      rw [List.cons_append, List.nil_append, Lib.parseUint10, if_pos (by omega), if_neg (by omega), if_neg (by omega), hb]
      congr 1; omega
theorem decDigits_ne (u : Nat) : Lib.decDigits u ≠ [] := by
  rw [Lib.decDigits]; split <;> simp
theorem decDigits_dig (u : Nat) : ∀ b ∈ Lib.decDigits u, 48 ≤ b.toNat ∧ b.toNat ≤ 57 := by
  induction u using Nat.strongRecOn with
  | ind u ih =>
    intro b hb
    by_cases hu : u < 10
    · rw [Lib.decDigits_one hu] at hb
      obtain rfl := List.mem_singleton.1 hb
      have := dig_byte hu; omega
    · rw [Lib.decDigits, dif_neg hu] at hb
      rcases List.mem_append.1 hb with h | h
      · exact ih (u / 10) (by omega) b h
      · obtain rfl := List.mem_singleton.1 h
        have := dig_byte (Nat.mod_lt u (show 0 < 10 by omega)); omega
theorem atoi_dec {u : Nat} (h : u < 1000000) : Lib.atoiAll (Lib.decDigits u) = .ok u := by
  have h0 := parse_dig u 0 (by omega) []
  rw [List.append_nil] at h0
  cases hd : Lib.decDigits u with
  | nil => exact absurd hd (decDigits_ne u)
  | cons c r =>
    have hc := decDigits_dig u c (by rw [hd]; exact List.mem_cons_self ..)
    rw [hd] at h0
    rw [Lib.atoiAll, if_neg (by omega), Lib.parseMag, if_neg (by simp), h0]
    simp only [Lib.parseUint10, Nat.zero_mul, Nat.zero_add]
    rw [if_neg (by omega), if_neg (by omega), if_neg (by omega)]
theorem Num.atoi {s : ByteArray} {v : Int} (h : Num s v) : Lib.atoiAll s.data.toList = .ok v := by
  obtain ⟨h0, h1, rfl⟩ := h
  have := atoi_dec (u := v.toNat) (by omega)
  rw [show ((v.toNat : Nat) : Int) = v by omega] at this
  simpa [numS] using this
theorem atoi_in64 {l : List UInt8} {v : Int} (h : Lib.atoiAll l = .ok v) : In64 v := by
  unfold Lib.atoiAll at h
  split at h
  · cases h
  · rename_i c r
    simp only at h
    split at h
    · cases h
    · cases h
    · rename_i u hu
      split at h
      · cases h
      · split at h
        · cases h
        · injection h with h
          constructor <;> (subst h; split <;> omega)
end Go.V
/- Texts of diagrams: cutting and joining. -/
namespace Go.V
open Go
abbrev By := List UInt8
theorem occ_pre {s sub : By} {i : Nat} (h : Lib.occAt s sub i = true) : ∃ r, s.drop i = sub ++ r := by
  obtain ⟨r, hr⟩ := List.isPrefixOf_iff_prefix.1 h
  exact ⟨r, hr.symm⟩
theorem occ_of {s sub r : By} {i : Nat} (h : s.drop i = sub ++ r) : Lib.occAt s sub i = true := List.isPrefixOf_iff_prefix.2 ⟨r, h.symm⟩
theorem occ_get {s sub : By} {i j : Nat} {c : UInt8} (h : Lib.occAt s sub i = true) (hj : sub[j]? = some c) : s[i + j]? = some c := by
  obtain ⟨r, hr⟩ := occ_pre h
  have hlt := (List.getElem?_eq_some_iff.1 hj).1
  rw [← List.getElem?_drop, hr, List.getElem?_append_left hlt, hj]
theorem index_sep {p sep r : By} {j : Nat} {c : UInt8} (hj : sep[j]? = some c) (hp : c ∉ p) (hj0 : ∀ i, i < j → sep[i]? ≠ some c) : Lib.index (p ++ (sep ++ r)) sep = p.length := by
  refine Lib.index_first (by simp) (occ_of (r := r) (by simp)) (fun i hi => ?_)
  cases h : Lib.occAt (p ++ (sep ++ r)) sep i with
  | false => rfl
  | true =>
    exfalso
    have h1 := occ_get h hj
    rcases Nat.lt_or_ge (i + j) p.length with h2 | h2
    · rw [List.getElem?_append_left h2] at h1
      exact hp (List.mem_of_getElem? h1)
    · have hlt := (List.getElem?_eq_some_iff.1 hj).1
      rw [List.getElem?_append_right h2, List.getElem?_append_left (by omega)] at h1
      exact hj0 _ (by omega) h1
theorem index_miss {p sep : By} {j : Nat} {c : UInt8} (hj : sep[j]? = some c) (hp : c ∉ p) : Lib.index p sep = -1 := by
  refine Lib.index_none (fun i _ => ?_)
  cases h : Lib.occAt p sep i with
  | false => rfl
  | true => exact absurd (List.mem_of_getElem? (occ_get h hj)) hp
theorem join_two (x : By) {r : List By} (hr : r ≠ []) (sep : By) : Lib.join (x :: r) sep = x ++ (sep ++ Lib.join r sep) := by
  cases r with
  | nil => exact absurd rfl hr
  | cons y r => simp [Lib.join, List.intercalate, List.intersperse_cons_cons]
theorem join_single (x sep : By) : Lib.join [x] sep = x := by simp [Lib.join, List.intercalate]
theorem splitK_ne (sep : By) (k : Nat) (s : By) : Lib.splitK sep 0 k s ≠ [] := by
  cases k with
  | zero => simp [Lib.splitK]
  | succ k => rw [Lib.splitK]; split <;> simp
theorem join_splitK (sep : By) : ∀ (k : Nat) (s : By), Lib.join (Lib.splitK sep 0 k s) sep = s
  | 0, s => join_single s sep
  | k + 1, s => by
    rw [Lib.splitK]
    split
    · exact join_single s sep
    · rename_i hne
      rcases Lib.index_spec s sep with ⟨h1, _⟩ | ⟨i, h1, h2, h3, _⟩
      · rw [h1] at hne; exact absurd rfl hne
      · rw [h1, join_two _ (splitK_ne _ _ _), join_splitK sep k]
        obtain ⟨r, hr⟩ := occ_pre h3
        simp only [Int.toNat_natCast, Nat.add_zero]
        have e : s.drop (i + sep.length) = r := by rw [← List.drop_drop, hr]; simp
        rw [e, ← hr, List.take_append_drop]
theorem splitK_join {sep : By} {j : Nat} {c : UInt8} (hj : sep[j]? = some c) (hj0 : ∀ i, i < j → sep[i]? ≠ some c) : ∀ (ps : List By), ps ≠ [] → (∀ p ∈ ps, c ∉ p) → Lib.count (Lib.join ps sep) sep = ps.length - 1 ∧ Lib.splitK sep 0 (ps.length - 1) (Lib.join ps sep) = ps
  | [], h, _ => absurd rfl h
  | [p], _, hc => by
    rw [join_single]
    exact ⟨Lib.count_miss (index_miss hj (hc p (List.mem_cons_self ..))), rfl⟩
  | p :: q :: r, _, hc => by
    have ih := splitK_join hj hj0 (q :: r) (by simp) (fun x hx => hc x (List.mem_cons_of_mem _ hx))
    have hix := index_sep (r := Lib.join (q :: r) sep) hj (hc p (List.mem_cons_self ..)) hj0
    have hne : sep ≠ [] := fun e => by rw [e] at hj; cases hj
    rw [join_two p (by simp)]
    have hd : (p ++ (sep ++ Lib.join (q :: r) sep)).drop (p.length + sep.length) = Lib.join (q :: r) sep := by
      rw [← List.drop_drop, List.drop_left, List.drop_left]
    constructor
    · rw [Lib.count_hit hne hix, hd, ih.1]; simp only [List.length_cons]; omega
    · show Lib.splitK sep 0 (r.length + 1) _ = _
      rw [Lib.splitK, hix, if_neg (fun h => by have := beq_iff_eq.1 h; omega)]
      simp only [Int.toNat_natCast, Nat.add_zero, hd, List.take_left]
      have := ih.2
      simp only [List.length_cons, Nat.add_sub_cancel] at this
      rw [this]
def piecesL (s sep : By) : List By := Lib.splitK sep 0 (Lib.count s sep) s
theorem piecesL_join {sep : By} {j : Nat} {c : UInt8} (hj : sep[j]? = some c) (hj0 : ∀ i, i < j → sep[i]? ≠ some c) {ps : List By} (h : ps ≠ []) (hc : ∀ p ∈ ps, c ∉ p) : piecesL (Lib.join ps sep) sep = ps := by
  have := splitK_join hj hj0 ps h hc
  rw [piecesL, this.1, this.2]
theorem join_pieces (s sep : By) : Lib.join (piecesL s sep) sep = s := join_splitK sep _ s
/-! ### The same of byte arrays -/
def piecesB (s sep : ByteArray) : List ByteArray := Lib.splitB sep 0 (Lib.countB s sep) s
theorem piecesB_data (s sep : ByteArray) : (piecesB s sep).map (·.data.toList) = piecesL s.data.toList sep.data.toList := Lib.splitB_data sep 0 _ s
theorem map_data_inj : ∀ {l m : List ByteArray}, l.map (·.data.toList) = m.map (·.data.toList) → l = m
  | [], [], _ => rfl
  | [], _ :: _, h => by cases h
  | _ :: _, [], h => by cases h
  | x :: l, y :: m, h => by
    simp only [List.map_cons, List.cons.injEq] at h
    rw [ba_ext h.1, map_data_inj h.2]
theorem piecesB_join {s sep : ByteArray} {j : Nat} {c : UInt8} (hj : sep.data.toList[j]? = some c) (hj0 : ∀ i, i < j → sep.data.toList[i]? ≠ some c) {ps : List ByteArray} (h : ps ≠ []) (hc : ∀ p ∈ ps, c ∉ p.data.toList) (hs : s.data.toList = Lib.join (ps.map (·.data.toList)) sep.data.toList) : piecesB s sep = ps := by
  refine map_data_inj ?_
  rw [piecesB_data, hs]
  exact piecesL_join hj hj0 (by simpa using h) (fun p hp => by obtain ⟨q, hq, rfl⟩ := List.mem_map.1 hp; exact hc q hq)
theorem join_piecesB (s sep : ByteArray) : Lib.join ((piecesB s sep).map (·.data.toList)) sep.data.toList = s.data.toList := by
  rw [piecesB_data, join_pieces]
/-! ### Crossings -/
def Cross (s : ByteArray) (x : Cr) : Prop := (x.s = 1 ∨ x.s = -1) ∧ MidCr x ∧ s = crS x
def fieldsS (x : Cr) : List ByteArray := [sgnS x, numS x.a0, numS x.a1, numS x.a2, numS x.a3]
theorem crS_join (x : Cr) : (crS x).data.toList = Lib.join ((fieldsS x).map (·.data.toList)) [32] := by
  simp [crS, crTo, fieldsS, Cr.arc, Lib.join, List.intercalate, List.intersperse_cons_cons]
theorem num_free {c : UInt8} {n : Int} (h : c.toNat < 48 ∨ 57 < c.toNat) : c ∉ (numS n).data.toList := fun hc => by
  have := decDigits_dig n.toNat c (by simpa [numS] using hc)
  omega
theorem sgn_free {c : UInt8} {x : Cr} (h1 : c ≠ 43) (h2 : c ≠ 45) : c ∉ (sgnS x).data.toList := fun hc => by
  rw [sgnS] at hc
  split at hc <;> simp at hc <;> first | exact h2 hc | exact h1 hc
theorem crS_pieces (x : Cr) : piecesB (crS x) spS = fieldsS x := by
  refine piecesB_join (j := 0) (c := 32) rfl (fun i h => by omega) (by simp [fieldsS]) (fun p hp => ?_) (crS_join x)
  have hn : ∀ n : Int, (32 : UInt8) ∉ (numS n).data.toList := fun n => num_free (.inl (by decide))
  simp only [fieldsS, List.mem_cons, List.not_mem_nil, or_false] at hp
  rcases hp with rfl | rfl | rfl | rfl | rfl
  · exact sgn_free (by decide) (by decide)
  all_goals exact hn _
theorem numS_inj {a b : Int} (ha : 0 ≤ a ∧ a ≤ 1000) (hb : 0 ≤ b ∧ b ≤ 1000) (h : numS a = numS b) : a = b := by
  have h1 := Num.atoi (s := numS a) (v := a) ⟨ha.1, ha.2, rfl⟩
  have h2 := Num.atoi (s := numS a) (v := b) ⟨hb.1, hb.2, h⟩
  rw [h1] at h2
  injection h2
theorem Cross.uniq {s : ByteArray} {x y : Cr} (hx : Cross s x) (hy : Cross s y) : x = y := by
  have h : fieldsS x = fieldsS y := by rw [← crS_pieces, ← crS_pieces, ← hx.2.2, hy.2.2]
  simp only [fieldsS, List.cons.injEq] at h
  have mx := hx.2.1; have my := hy.2.1
  have e0 := numS_inj (mx 0 (by omega)) (my 0 (by omega)) h.2.1
  have e1 := numS_inj (mx 1 (by omega)) (my 1 (by omega)) h.2.2.1
  have e2 := numS_inj (mx 2 (by omega)) (my 2 (by omega)) h.2.2.2.1
  have e3 := numS_inj (mx 3 (by omega)) (my 3 (by omega)) h.2.2.2.2.1
  have es : x.s = y.s := by
    have hs := h.1
    rw [sgnS, sgnS] at hs
    rcases hx.1 with h1 | h1 <;> rcases hy.1 with h2 | h2 <;> rw [h1, h2] at hs <;> first | (rw [h1, h2]; done) | (exact absurd hs (by decide))
  obtain ⟨x0, x1, x2, x3, xs⟩ := x
  obtain ⟨y0, y1, y2, y3, ys⟩ := y
  simp only [Cr.arc] at e0 e1 e2 e3 es
  subst e0 e1 e2 e3 es; rfl
/-- What the pieces say. -/
theorem cross_of {s p0 p1 p2 p3 p4 : ByteArray} {l : List Int} {sg : Int} (hp : piecesB s spS = [p0, p1, p2, p3, p4]) (h0 : sg = 1 ∧ p0 = ⟨#[43]⟩ ∨ sg = -1 ∧ p0 = ⟨#[45]⟩) (h1 : Num p1 (l.getD 0 0)) (h2 : Num p2 (l.getD 1 0)) (h3 : Num p3 (l.getD 2 0)) (h4 : Num p4 (l.getD 3 0)) : Cross s (cr4 l sg) := by
  refine ⟨?_, fun p hp => ?_, ba_ext ?_⟩
  · rcases h0 with h | h
    · exact .inl h.1
    · exact .inr h.1
  · match p, hp with
    | 0, _ => exact ⟨h1.1, h1.2.1⟩
    | 1, _ => exact ⟨h2.1, h2.2.1⟩
    | 2, _ => exact ⟨h3.1, h3.2.1⟩
    | 3, _ => exact ⟨h4.1, h4.2.1⟩
  · rw [← join_piecesB s spS, hp, crS_join, h1.2.2, h2.2.2, h3.2.2, h4.2.2]
    have e : p0 = sgnS (cr4 l sg) := by
      rcases h0 with ⟨rfl, rfl⟩ | ⟨rfl, rfl⟩
      · rw [sgnS, show (cr4 l 1).s = 1 from rfl, if_neg (by decide)]
      · rw [sgnS, show (cr4 l (-1)).s = -1 from rfl, if_pos (by decide)]
    rw [e]; rfl
def pieceAt (p1 p2 p3 p4 : ByteArray) : Nat → ByteArray
  | 0 => p1
  | 1 => p2
  | 2 => p3
  | _ => p4
theorem nth_piece {p0 p1 p2 p3 p4 : ByteArray} {k : Nat} (h : k < 4) : nth [Value.string p0, .string p1, .string p2, .string p3, .string p4] (0 + (k + 1) * 1) = some (.string (pieceAt p1 p2 p3 p4 k)) := by
  match k, h with
  | 0, _ => rfl
  | 1, _ => rfl
  | 2, _ => rfl
  | 3, _ => rfl
theorem five {α : Type} {l : List α} (h : l.length = 5) : ∃ a b c d e, l = [a, b, c, d, e] := by
  match l, h with
  | [a, b, c, d, e], _ => exact ⟨a, b, c, d, e, rfl⟩
/-- The numbers so far. -/
def NumsTo (p1 p2 p3 p4 : ByteArray) (l : List Int) : Prop := ∀ j, j < l.length → Num (pieceAt p1 p2 p3 p4 j) (l.getD j 0)
theorem NumsTo.snoc {p1 p2 p3 p4 : ByteArray} {l : List Int} {v : Int} (h : NumsTo p1 p2 p3 p4 l) (hv : Num (pieceAt p1 p2 p3 p4 l.length) v) : NumsTo p1 p2 p3 p4 (l ++ [v]) := fun j hj => by
  rw [List.length_append] at hj
  have hj : j < l.length + 1 := hj
  rcases Nat.lt_or_ge j l.length with h1 | h1
  · have := h j h1
    rw [List.getD_eq_getElem?_getD] at this ⊢
    rwa [List.getElem?_append_left h1]
  · obtain rfl : j = l.length := by omega
    rw [List.getD_eq_getElem?_getD, List.getElem?_append_right (Nat.le_refl _), Nat.sub_self]
    exact hv
/-- One piece that is none: no crossing. -/
theorem cross_not {s p0 p1 p2 p3 p4 : ByteArray} {k : Nat} (hp : piecesB s spS = [p0, p1, p2, p3, p4]) (hk : k < 4) (h : ∀ v, ¬ Num (pieceAt p1 p2 p3 p4 k) v) (x : Cr) : ¬ Cross s x := fun hx => by
  have e : fieldsS x = [p0, p1, p2, p3, p4] := by rw [← crS_pieces, ← hx.2.2, hp]
  simp only [fieldsS, List.cons.injEq, and_true] at e
  obtain ⟨_, rfl, rfl, rfl, rfl⟩ := e
  have hm := hx.2.1
  match k, hk with
  | 0, _ => exact h _ ⟨(hm 0 (by omega)).1, (hm 0 (by omega)).2, rfl⟩
  | 1, _ => exact h _ ⟨(hm 1 (by omega)).1, (hm 1 (by omega)).2, rfl⟩
  | 2, _ => exact h _ ⟨(hm 2 (by omega)).1, (hm 2 (by omega)).2, rfl⟩
  | 3, _ => exact h _ ⟨(hm 3 (by omega)).1, (hm 3 (by omega)).2, rfl⟩
theorem cross_len {s : ByteArray} {x : Cr} (hx : Cross s x) : (piecesB s spS).length = 5 := by rw [hx.2.2, crS_pieces]; rfl
theorem cross_sgn {s p0 p1 p2 p3 p4 : ByteArray} (hp : piecesB s spS = [p0, p1, p2, p3, p4]) (h1 : p0 ≠ ⟨#[43]⟩) (h2 : p0 ≠ ⟨#[45]⟩) (x : Cr) : ¬ Cross s x := fun hx => by
  have e : fieldsS x = [p0, p1, p2, p3, p4] := by rw [← crS_pieces, ← hx.2.2, hp]
  simp only [fieldsS, List.cons.injEq] at e
  have e0 := e.1
  rw [sgnS] at e0
  split at e0
  · exact h2 e0.symm
  · exact h1 e0.symm
theorem mem_join_size {x : By} {sep : By} : ∀ {l : List By}, x ∈ l → x.length ≤ (Lib.join l sep).length
  | [], h => by cases h
  | [y], h => by rw [List.mem_singleton.1 h, join_single]; exact Nat.le_refl _
  | y :: z :: r, h => by
    rw [join_two y (by simp)]
    simp only [List.length_append]
    rcases List.mem_cons.1 h with rfl | h
    · omega
    · have := mem_join_size (sep := sep) h; omega
theorem mem_piece_size {s sep p : ByteArray} (h : p ∈ piecesB s sep) : p.size ≤ s.size := by
  have h1 := mem_join_size (sep := sep.data.toList) (List.mem_map.2 ⟨p, h, rfl⟩ : p.data.toList ∈ (piecesB s sep).map (·.data.toList))
  rw [join_piecesB, Array.length_toList, Array.length_toList] at h1
  exact h1
theorem pieces_size {s p0 p1 p2 p3 p4 : ByteArray} (h : piecesB s spS = [p0, p1, p2, p3, p4]) (k : Nat) : (pieceAt p1 p2 p3 p4 k).size ≤ s.size := by
  refine mem_piece_size (sep := spS) ?_
  rw [h]
  unfold pieceAt
  split <;> simp
theorem piece_size {s p1 p2 p3 p4 : ByteArray} (h : ∀ k, (pieceAt p1 p2 p3 p4 k).size ≤ s.size) (hz : s.size ≤ 200000) (k : Nat) : (pieceAt p1 p2 p3 p4 k).size ≤ 200000 := Nat.le_trans (h k) hz
end Go.V
/- What the program uses of the library; numbers; the text of a diagram. -/
namespace Go.Proofs
open Go Go.V
set_option maxRecDepth 20000
open Go.RowKit in
theorem sym_of_below {w w' : World} (h : Below w.heap.size w w') : Sym w Nil [] w' := ⟨Old.of_below h, fun h hh => (by cases hh), fun h hh => (by cases hh), List.Pairwise.nil⟩
theorem z_grow (B : Nat) (w : World) (hB : B ≤ w.heap.size) (k : Nat) (os : Array Obj) : RowKit.Below B w (Sort.grow (w.drewN k) os) :=
  ⟨rfl, rfl, rfl, (by show w.heap.size ≤ (w.heap ++ os).size; rw [Array.size_append]; omega), fun j hj => (by
    show (w.heap ++ os)[j]? = w.heap[j]?
    rw [Array.getElem?_append_left (by omega)])⟩
theorem var_old {P : Program} {n : String} {cs : Array Value} {w w' : World} (h : w.var? P n = some cs) (ho : Old Nil w w') : w'.var? P n = some cs := by
  unfold World.var? at *
  cases hg : P.globalNamed n with
  | none => rw [hg] at h; cases h
  | some g =>
    rw [hg] at h
    simp only [Option.bind_some] at h ⊢
    have hlt : g < w.heap.size := by
      rcases Nat.lt_or_ge g w.heap.size with h1 | h1
      · exact h1
      · rw [Array.getElem?_eq_none h1] at h; cases h
    rw [ho.block g hlt (fun x => x)]; exact h
/-- What the library reads of the package-level variables. -/
structure Env (w : World) : Prop where
  tab : Lib.TabIs Tryz.prog w "internal/strconv.uint64pow10" .u64 Lib.pow10Tab
  ml : ∃ m, w.cell? ⟨0, 0, none⟩ = some (.int .i64 m)
  syn : ∃ tp p, w.var? Tryz.prog "strconv.ErrSyntax" = some #[.iface tp p]
  rng : ∃ tp p, w.var? Tryz.prog "strconv.ErrRange" = some #[.iface tp p]
theorem Env.old {w w' : World} (h : Env w) (ho : Old Nil w w') : Env w' :=
  ⟨var_old h.tab ho, let ⟨m, hm⟩ := h.ml; ⟨m, ho.cell hm (fun x => x)⟩, let ⟨t, p, e⟩ := h.syn; ⟨t, p, var_old e ho⟩, let ⟨t, p, e⟩ := h.rng; ⟨t, p, var_old e ho⟩⟩
theorem Env.sym {w w' : World} {L : List HL} (h : Env w) (hs : Sym w Nil L w') : Env w' := h.old hs.old
def itoaS (n : Int) : ByteArray := ⟨(Lib.itoa n).toArray⟩
theorem itoaS_pos {n : Int} (h : 0 ≤ n) : itoaS n = numS n := by rw [itoaS, Lib.itoa, if_neg (by omega)]; rfl
theorem z_Itoa (n : Int) (w : World) (he : Env w) (h : In64 n) : Gives Tryz.prog 32 #[iv n] w Nil (fun _ : Unit => True) (fun _ => .string (itoaS n)) (fun _ => []) := by
  refine Calls.mono (Tryz.strconv_Itoa n h.1 h.2 w he.tab) ?_
  rintro e w' ⟨rfl, k, os, rfl⟩
  exact ⟨(), trivial, rfl, sym_of_below (z_grow _ w (Nat.le_refl _) k os)⟩
theorem z_ItoaP (n : Int) (w : World) (he : Env w) (h0 : 0 ≤ n) (h1 : n ≤ 9223372036854775807) : Gives Tryz.prog 32 #[iv n] w Nil (fun _ : Unit => True) (fun _ => .string (numS n)) (fun _ => []) := by
  rw [← itoaS_pos h0]
  exact z_Itoa n w he ⟨by omega, h1⟩
theorem z_Atoi (s : ByteArray) (v : Int) (w : World) (hs : s.size ≤ 281474976710656) (h : Lib.atoiAll s.data.toList = .ok v) : Gives Tryz.prog 76 #[.string s] w Nil (fun _ : Unit => True) (fun _ => .tuple #[iv v, .nilIface]) (fun _ => []) := by
  refine Calls.mono (Tryz.strconv_Atoi_ok s (by omega) v h w) ?_
  rintro e w' ⟨rfl, h⟩
  refine ⟨(), trivial, rfl, sym_of_below ?_⟩
  rcases h with rfl | ⟨t, rfl⟩
  · exact RowKit.Below.refl _ _
  · exact Joins.below_bytesWorld _ w 5 t (Nat.le_refl _)
theorem z_AtoiBad (s : ByteArray) (w : World) (he : Env w) (hs : s.size ≤ 281474976710656) (h : ∀ v, Lib.atoiAll s.data.toList ≠ .ok v) : Gives Tryz.prog 76 #[.string s] w Nil (fun _ : Int × Nat => True) (fun g => .tuple #[iv g.1, .iface 200 (ptrV g.2)]) (fun _ => []) := by
  cases ha : Lib.atoiAll s.data.toList
  · rename_i v; exact absurd ha (h v)
  · obtain ⟨tp, p, e⟩ := he.syn
    refine Calls.mono (Any.strconv_Atoi_syntax_var Tryz.laysC172 s hs ha tp p w e) ?_
    rintro e w' ⟨N, rfl, _, _, hb⟩
    exact ⟨(0, N), trivial, rfl, sym_of_below hb⟩
  · obtain ⟨tp, p, e⟩ := he.rng
    refine Calls.mono (Tryz.strconv_Atoi_range_var s hs ha tp p w e) ?_
    rintro e w' ⟨N, rfl, _, _, hb⟩
    exact ⟨(_, N), trivial, rfl, sym_of_below hb⟩
theorem z_Split (s sep : ByteArray) (w : World) (he : Env w) (hs : s.size < 4294967281) (h1 : 1 ≤ sep.size) : Gives Tryz.prog 38 #[.string s, .string sep] w Nil (fun _ : Nat => True) (fun b => .slice (some ⟨b, 0, none⟩) (piecesB s sep).length (piecesB s sep).length) (fun b => [HL.obj b (.cells ((piecesB s sep).map Value.string).toArray 9 (0, 0))]) := by
  obtain ⟨m, hm⟩ := he.ml
  have hl : (piecesB s sep).length = Lib.countB s sep + 1 := Lib.splitB_all sep h1 0 _ s rfl
  refine Calls.mono (Tryz.strings_Split s sep m w hs hm h1) ?_
  rintro e w' ⟨rfl, rfl⟩
  refine ⟨w.heap.size, trivial, by rw [hl], ?_⟩
  exact (Sym.nil w Nil).alloc _
theorem z_Cut (s sep : ByteArray) (w : World) (he : Env w) (hs : s.size < 4294967281) : Gives Tryz.prog 37 #[.string s, .string sep] w Nil (fun _ : Unit => True) (fun _ => .tuple #[.string ⟨(Lib.cut s.data.toList sep.data.toList).1.toArray⟩, .string ⟨(Lib.cut s.data.toList sep.data.toList).2.1.toArray⟩, .bool (Lib.cut s.data.toList sep.data.toList).2.2]) (fun _ => []) := by
  obtain ⟨m, hm⟩ := he.ml
  refine Calls.mono (Tryz.strings_Cut s sep m w hs hm) ?_
  rintro e w' ⟨rfl, n, rfl⟩
  exact ⟨(), trivial, rfl, sym_of_below (Joins.below_draws _ _ _)⟩
theorem z_Join (g c n : Nat) (xs : List ByteArray) (w : World) (hn : xs.length = n) (hc : Cells w ⟨g, 0, none⟩ (strs xs)) (hg : g < w.heap.size) (hcap : xs.length ≤ c) (h200 : xs.length ≤ 200) (hs : ∀ s ∈ xs, s.size ≤ 4009) :
    Gives Tryz.prog 33 #[.slice (some ⟨g, 0, none⟩) n c, .string semiS] w Nil (fun _ : Unit => True) (fun _ => .string (joinS xs)) (fun _ => []) := by
  subst hn
  have hl := join_len hs
  refine Calls.mono (Tryz.strings_Join g 0 c xs semiS w (fun j x hx => ?_) hg (by omega) hcap (by omega)) ?_
  · have := hc j (.string x) (by simp [strs, hx])
    rw [show Addr.add ⟨g, 0, none⟩ j = ⟨g, 0 + j, none⟩ from by unfold Addr.add; split <;> simp_all] at this
    exact this
  · rintro e w' ⟨rfl, hb⟩
    exact ⟨(), trivial, rfl, sym_of_below hb⟩

theorem dg_Text (base : Option Addr) (A : Addr) (cap : Nat) (d : Dia) (w : World) (hd : DiaAt w base A d) (hc : checkI d = 0) (hsm : ∀ x ∈ d.cross, MidCr x) (hsl : d.loops ≤ 1000) (he : Env w) : Gives Tryz.prog 7 #[diaV base cap d] w Nil (fun _ : Unit => True) (fun _ => .tuple #[.string (textOf d), iv 0]) (fun _ => []) := by
  obtain ⟨hS, hPl⟩ := checkI_ok.1 hc
  have h200 := hS.1
  have hlo := hS.2.1
  have hlo2 := hS.2.2.1
  refine fn_of_run (S := Nil) (args := [diaV base cap d]) (n := 59) (L := []) Tryz.func7 rfl Tryz.ntmps7 (Nat.le_of_ble_eq_true rfl) (Sym.nil _ _) ?_
  change RunC _ _ _ [(0, _)] _
  refine RunC.seq ?_
  refine RunC.region ?_
  refine RunL.grows rfl rfl rfl (Grows.box rfl rfl) (fun b1 _ => ?_)
  refine RunL.still rfl rfl rfl (Still.assign rfl rfl) ?_
  refine RunL.still rfl rfl rfl (Still.assign rfl rfl) ?_
  refine RunL.nil ?_
  refine Ends.then ?_
  refine RunC.seq ?_
  refine RunC.seq ?_
  refine RunC.region ?_
  refine RunL.still rfl rfl rfl (Still.loads rfl rfl Tryz.isAgg24 Tryz.sizeOf24 (vs := [_, _]) rfl (fun _ hs => cells_nth (hs.at (i := 0) rfl) ⟨rfl, ⟨rfl, trivial⟩⟩)) ?_
  refine RunL.grows rfl rfl rfl (Grows.call (vs := #[_]) rfl rfl Tryz.call31 (fun w hs => dg_enter_ok base A cap d w (hd.sym hs) hc)) (fun ⟨eb, av⟩ hav => ?_)
  refine RunL.still rfl rfl rfl (Still.move rfl rfl) ?_
  refine RunL.still rfl rfl rfl (Still.extractN rfl rfl rfl) ?_
  refine RunL.still rfl rfl rfl (Still.extractN rfl rfl rfl) ?_
  refine RunL.still rfl rfl rfl (Still.assign rfl rfl) ?_
  refine RunL.still rfl rfl rfl (Still.assign rfl rfl) ?_
  refine RunL.nil ?_
  refine Ends.then ?_
  refine RunC.seq ?_
  refine RunC.region ?_
  refine RunL.still rfl rfl rfl (Still.move rfl rfl) ?_
  refine RunL.still rfl rfl rfl (Still.neq rfl rfl rfl) ?_
  refine RunL.nil ?_
  refine Ends.then ?_
  refine RunC.cond rfl (fun h18 => ?_) (fun h18 => ?_)
  · have h18 := of_decide_eq_true h18
    exact absurd rfl h18
  · have h18 := of_decide_eq_false h18
    refine RunC.skip ?_
    refine Ends.then ?_
    refine RunC.seq ?_
    refine RunC.region ?_
    refine RunL.still rfl rfl rfl (Still.assign rfl rfl) ?_
    refine RunL.own_nil 9 1 ?_
    refine RunL.nil ?_
    refine Ends.then ?_
    refine RunC.seq ?_
    refine RunC.seq ?_
    refine RunC.region ?_
    refine RunL.still rfl rfl rfl (Still.fieldAddrL (off := 0) (off' := 0) rfl rfl Tryz.underlying24 rfl Tryz.sizeOf22 rfl) ?_
    refine RunL.still rfl rfl rfl (Still.load rfl rfl Tryz.isAgg22 (fun _ hs => cell_nth (hs.at (i := 3) rfl) rfl)) ?_
    refine RunL.still rfl rfl rfl (Still.lenSlice rfl rfl Tryz.underlying22) ?_
    refine RunL.still rfl rfl rfl (Still.move rfl rfl) ?_
    refine RunL.nil ?_
    refine Ends.then ?_
    refine RunC.block ?_
    refine RunC.loop2 (γ := Value × Nat) (keep := [(1, _), (21, _), (22, _)]) (hkeep := [_, _, _]) (fun (v, c) => c ≤ d.cross.length) (fun (v, c) => d.cross.length - c) (fun (v, c) => [(6, v), (23, iv c)]) (fun (v, c) => [HL.own 9 1 v c (strs ((d.cross.take c).map crS))]) (.slice none 0 0, 0) (by omega) (Fr.Sub.cons rfl (Fr.Sub.cons rfl (Fr.Sub.nil _))) (Fr.Sub.cons rfl (Fr.Sub.cons rfl (Fr.Sub.cons rfl (Fr.Sub.nil _)))) (HSub.pick 0 rfl (HSub.pick 0 rfl (HSub.pick 0 rfl (HSub.pick 0 rfl (HSub.nil _))))) ?_
    rintro ⟨v, c⟩ hcl
    refine RunC.seq ?_
    refine RunC.region ?_
    refine RunL.still rfl rfl rfl (Still.lss rfl rfl rfl) ?_
    refine RunL.nil ?_
    refine Ends.then ?_
    refine RunC.seq ?_
    refine RunC.cond rfl (fun h24 => ?_) (fun h24 => ?_)
    · have h24 := of_decide_eq_true h24
      have hcl : c ≤ d.cross.length := hcl
      obtain ⟨x, hx⟩ := get_of_lt (l := d.cross) (i := c) (by omega)
      have hxp := hsm x (List.mem_of_getElem? hx)
      refine RunC.skip ?_
      refine Ends.then ?_
      refine RunC.seq ?_
      refine RunC.block ?_
      refine RunC.seq ?_
      refine RunC.region ?_
      refine RunL.still rfl rfl rfl (Still.indexSliceN rfl rfl rfl Tryz.underlying22 Tryz.sizeOf62 (hd.base (by omega)) (by omega)) ?_
      refine RunL.still rfl rfl rfl (Still.loads rfl rfl Tryz.isAgg62 Tryz.sizeOf62 (vs := encCr x) rfl (fun _ hs => Cells.base0 (hd.cross hx) hs)) ?_
      refine RunL.grows rfl rfl rfl (Grows.alloc rfl Tryz.zeroValue62) (fun b8 _ => ?_)
      refine RunL.does0 rfl rfl (Does.store rfl rfl rfl (i := 0) rfl Tryz.sizeOf62 rfl (rfl) rfl) (fun _ _ => ?_)
      refine RunL.nil ?_
      refine Ends.then ?_
      refine RunC.seq ?_
      refine RunC.region ?_
      refine RunL.still rfl rfl rfl (Still.assign rfl rfl) ?_
      refine RunL.nil ?_
      refine Ends.then ?_
      refine RunC.seq ?_
      refine RunC.seq ?_
      refine RunC.region ?_
      refine RunL.still rfl rfl rfl (Still.fieldAddrL (off := 0) (off' := 4) rfl rfl Tryz.underlying62 rfl Tryz.sizeOf3 rfl) ?_
      refine RunL.still rfl rfl rfl (Still.load rfl rfl Tryz.isAgg3 (fun _ hs => cell_nth (hs.at (i := 0) rfl) rfl)) ?_
      refine RunL.still rfl rfl rfl (Still.lss rfl rfl rfl) ?_
      refine RunL.nil ?_
      refine Ends.then ?_
      refine RunC.cond rfl (fun h29 => ?_) (fun h29 => ?_)
      · have h29 := of_decide_eq_true h29
        refine RunC.region ?_
        refine RunL.still rfl rfl rfl (Still.assign rfl rfl) ?_
        refine RunL.nil ?_
        refine Ends.then ?_
        refine RunC.seq ?_
        refine RunC.seq ?_
        refine RunC.region ?_
        refine RunL.still rfl rfl rfl (Still.fieldAddrL (off := 0) (off' := 0) rfl rfl Tryz.underlying62 rfl Tryz.sizeOf60 rfl) ?_
        refine RunL.still rfl rfl rfl (Still.loads rfl rfl Tryz.isAgg60 Tryz.sizeOf60 (vs := [_, _, _, _]) rfl (fun _ hs => cells_nth (hs.at (i := 0) rfl) ⟨rfl, ⟨rfl, ⟨rfl, ⟨rfl, trivial⟩⟩⟩⟩)) ?_
        refine RunL.still rfl rfl rfl (Still.move rfl rfl) ?_
        refine RunL.nil ?_
        refine Ends.then ?_
        refine RunC.block ?_
        refine RunC.loop2 (γ := Nat) (keep := [(1, _), (6, _), (21, _), (22, _), (23, _), (31, _)]) (hkeep := [_, _, _, _, _]) (fun p => p ≤ 4) (fun p => 4 - p) (fun p => [(9, .string (crTo x p)), (32, iv p)]) (fun p => []) 0 (by omega) (Fr.Sub.cons (by first | (rw [crTo, sgnS, if_pos h29]; rfl) | (rw [crTo, sgnS, if_neg h29]; rfl)) (Fr.Sub.cons rfl (Fr.Sub.nil _))) (Fr.Sub.cons rfl (Fr.Sub.cons rfl (Fr.Sub.cons rfl (Fr.Sub.cons rfl (Fr.Sub.cons rfl (Fr.Sub.cons rfl (Fr.Sub.nil _))))))) (HSub.pick 0 rfl (HSub.pick 0 rfl (HSub.pick 0 rfl (HSub.pick 0 rfl (HSub.pick 0 rfl (HSub.nil _)))))) ?_
        rintro p hp
        refine RunC.seq ?_
        refine RunC.region ?_
        refine RunL.still rfl rfl rfl (Still.lss rfl rfl rfl) ?_
        refine RunL.nil ?_
        refine Ends.then ?_
        refine RunC.seq ?_
        refine RunC.cond rfl (fun h33 => ?_) (fun h33 => ?_)
        · have h33 := of_decide_eq_true h33
          have hp4 : p < 4 := by omega
          refine RunC.skip ?_
          refine Ends.then ?_
          refine RunC.seq ?_
          refine RunC.block ?_
          refine RunC.seq ?_
          refine RunC.region ?_
          refine RunL.still rfl rfl rfl (Still.index rfl rfl rfl Tryz.underlying60 Tryz.sizeOf3 Tryz.isAgg3 ⟨by omega, by omega⟩ (arc_index hp4)) ?_
          refine RunL.still rfl rfl rfl (Still.assign rfl rfl) ?_
          refine RunL.nil ?_
          refine Ends.then ?_
          refine RunC.region ?_
          refine RunL.still rfl rfl rfl (Still.move rfl rfl) ?_
          refine RunL.still rfl rfl rfl (Still.move rfl rfl) ?_
          refine RunL.grows rfl rfl rfl (Grows.call (vs := #[_]) rfl rfl Tryz.call32 (fun w hs => z_ItoaP (x.arc p) w (he.sym hs) (hxp p hp4).1 (by have := (hxp p hp4).2; omega))) (fun _ _ => ?_)
          refine RunL.still rfl rfl rfl (Still.cat rfl rfl rfl (by have := numS_mid (hxp p hp4).1 (hxp p hp4).2; show 1 + (numS (x.arc p)).size ≤ _; omega)) ?_
          refine RunL.still rfl rfl rfl (Still.cat rfl rfl rfl (by have h1 := numS_mid (hxp p hp4).1 (hxp p hp4).2; have h2 := crTo_mid hxp p hp; rw [ByteArray.size_append]; show _ + (1 + (numS (x.arc p)).size) ≤ _; omega)) ?_
          refine RunL.still rfl rfl rfl (Still.assign rfl rfl) ?_
          refine RunL.nil ?_
          refine Ends.block ?_
          refine Ends.then ?_
          refine RunC.region ?_
          refine RunL.still rfl rfl rfl (Still.add rfl rfl rfl (fits64 (by omega) (by omega))) ?_
          refine RunL.still rfl rfl rfl (Still.move rfl rfl) ?_
          refine RunL.nil ?_
          refine Ends.again (p + 1) ?_ ?_ (Fr.Sub.app ?_ ?_) ?_
          · show _; omega
          · show _ < _; omega
          · exact Fr.Sub.cons rfl (Fr.Sub.cons rfl (Fr.Sub.nil _))
          · exact Fr.Sub.cons rfl (Fr.Sub.cons rfl (Fr.Sub.cons rfl (Fr.Sub.cons rfl (Fr.Sub.cons rfl (Fr.Sub.cons rfl (Fr.Sub.nil _))))))
          · exact HSub.pick 0 rfl (HSub.pick 0 rfl (HSub.pick 0 rfl (HSub.pick 0 rfl (HSub.pick 0 rfl (HSub.nil _)))))
        · have h33 := of_decide_eq_false h33
          refine RunC.exit ?_
          refine Ends.then_exit ?_
          refine Ends.then_exit ?_
          refine Ends.block_exit ?_
          refine Ends.then ?_
          refine RunC.region ?_
          refine RunL.still rfl rfl rfl (Still.move rfl rfl) ?_
          refine RunL.still rfl rfl rfl (Still.move rfl rfl) ?_
          refine RunL.grows rfl rfl rfl (Grows.slice1 rfl rfl Tryz.underlying59 Tryz.sizeOf9 rfl Tryz.zeroValue9 (by decide)) (fun b43 _ => ?_)
          refine RunL.does rfl rfl rfl (Does.appendTo (n' := (c + 1)) (xs' := (strs ((d.cross.take c).map crS ++ [crTo x p]))) (news := [_]) rfl rfl rfl rfl (i := 2) rfl Tryz.underlying59 (by kernel_rfl : (_ : Option _) = some (some (.string ⟨#[]⟩), 1, 16)) rfl rfl (fun _ hs => cells_nth (hs.at (i := 0) rfl) ⟨rfl, trivial⟩) rfl rfl (by omega) (by omega) (rfl) (strs_snoc _ _)) (fun v44 hv44 => ?_)
          refine RunL.still rfl rfl rfl (Still.assign rfl rfl) ?_
          refine RunL.nil ?_
          refine Ends.block ?_
          refine Ends.then ?_
          refine RunC.region ?_
          refine RunL.still rfl rfl rfl (Still.add rfl rfl rfl (fits64 (by omega) (by omega))) ?_
          refine RunL.still rfl rfl rfl (Still.move rfl rfl) ?_
          refine RunL.nil ?_
          obtain rfl : p = 4 := by omega
          refine Ends.again (v44, c + 1) ?_ ?_ (Fr.Sub.app ?_ ?_) ?_
          · show c + 1 ≤ _; omega
          · show _ - (c + 1) < _ - c; omega
          · exact Fr.Sub.cons rfl (Fr.Sub.cons rfl (Fr.Sub.nil _))
          · exact Fr.Sub.cons rfl (Fr.Sub.cons rfl (Fr.Sub.cons rfl (Fr.Sub.nil _)))
          · exact HSub.pick 2 (by rw [List.take_add_one, hx]; simp only [Option.toList_some, List.map_append, List.map_cons, List.map_nil]; rfl) (HSub.pick 2 rfl (HSub.pick 2 rfl (HSub.pick 2 rfl (HSub.nil _))))
      · have h29 := of_decide_eq_false h29
        refine RunC.skip ?_
        refine Ends.then ?_
        refine RunC.seq ?_
        refine RunC.seq ?_
        refine RunC.region ?_
        refine RunL.still rfl rfl rfl (Still.fieldAddrL (off := 0) (off' := 0) rfl rfl Tryz.underlying62 rfl Tryz.sizeOf60 rfl) ?_
        refine RunL.still rfl rfl rfl (Still.loads rfl rfl Tryz.isAgg60 Tryz.sizeOf60 (vs := [_, _, _, _]) rfl (fun _ hs => cells_nth (hs.at (i := 0) rfl) ⟨rfl, ⟨rfl, ⟨rfl, ⟨rfl, trivial⟩⟩⟩⟩)) ?_
        refine RunL.still rfl rfl rfl (Still.move rfl rfl) ?_
        refine RunL.nil ?_
        refine Ends.then ?_
        refine RunC.block ?_
        refine RunC.loop2 (γ := Nat) (keep := [(1, _), (6, _), (21, _), (22, _), (23, _), (31, _)]) (hkeep := [_, _, _, _, _]) (fun p => p ≤ 4) (fun p => 4 - p) (fun p => [(9, .string (crTo x p)), (32, iv p)]) (fun p => []) 0 (by omega) (Fr.Sub.cons (by first | (rw [crTo, sgnS, if_pos h29]; rfl) | (rw [crTo, sgnS, if_neg h29]; rfl)) (Fr.Sub.cons rfl (Fr.Sub.nil _))) (Fr.Sub.cons rfl (Fr.Sub.cons rfl (Fr.Sub.cons rfl (Fr.Sub.cons rfl (Fr.Sub.cons rfl (Fr.Sub.cons rfl (Fr.Sub.nil _))))))) (HSub.pick 0 rfl (HSub.pick 0 rfl (HSub.pick 0 rfl (HSub.pick 0 rfl (HSub.pick 0 rfl (HSub.nil _)))))) ?_
        rintro p hp
        refine RunC.seq ?_
        refine RunC.region ?_
        refine RunL.still rfl rfl rfl (Still.lss rfl rfl rfl) ?_
        refine RunL.nil ?_
        refine Ends.then ?_
        refine RunC.seq ?_
        refine RunC.cond rfl (fun h33 => ?_) (fun h33 => ?_)
        · have h33 := of_decide_eq_true h33
          have hp4 : p < 4 := by omega
          refine RunC.skip ?_
          refine Ends.then ?_
          refine RunC.seq ?_
          refine RunC.block ?_
          refine RunC.seq ?_
          refine RunC.region ?_
          refine RunL.still rfl rfl rfl (Still.index rfl rfl rfl Tryz.underlying60 Tryz.sizeOf3 Tryz.isAgg3 ⟨by omega, by omega⟩ (arc_index hp4)) ?_
          refine RunL.still rfl rfl rfl (Still.assign rfl rfl) ?_
          refine RunL.nil ?_
          refine Ends.then ?_
          refine RunC.region ?_
          refine RunL.still rfl rfl rfl (Still.move rfl rfl) ?_
          refine RunL.still rfl rfl rfl (Still.move rfl rfl) ?_
          refine RunL.grows rfl rfl rfl (Grows.call (vs := #[_]) rfl rfl Tryz.call32 (fun w hs => z_ItoaP (x.arc p) w (he.sym hs) (hxp p hp4).1 (by have := (hxp p hp4).2; omega))) (fun _ _ => ?_)
          refine RunL.still rfl rfl rfl (Still.cat rfl rfl rfl (by have := numS_mid (hxp p hp4).1 (hxp p hp4).2; show 1 + (numS (x.arc p)).size ≤ _; omega)) ?_
          refine RunL.still rfl rfl rfl (Still.cat rfl rfl rfl (by have h1 := numS_mid (hxp p hp4).1 (hxp p hp4).2; have h2 := crTo_mid hxp p hp; rw [ByteArray.size_append]; show _ + (1 + (numS (x.arc p)).size) ≤ _; omega)) ?_
          refine RunL.still rfl rfl rfl (Still.assign rfl rfl) ?_
          refine RunL.nil ?_
          refine Ends.block ?_
          refine Ends.then ?_
          refine RunC.region ?_
          refine RunL.still rfl rfl rfl (Still.add rfl rfl rfl (fits64 (by omega) (by omega))) ?_
          refine RunL.still rfl rfl rfl (Still.move rfl rfl) ?_
          refine RunL.nil ?_
          refine Ends.again (p + 1) ?_ ?_ (Fr.Sub.app ?_ ?_) ?_
          · show _; omega
          · show _ < _; omega
          · exact Fr.Sub.cons rfl (Fr.Sub.cons rfl (Fr.Sub.nil _))
          · exact Fr.Sub.cons rfl (Fr.Sub.cons rfl (Fr.Sub.cons rfl (Fr.Sub.cons rfl (Fr.Sub.cons rfl (Fr.Sub.cons rfl (Fr.Sub.nil _))))))
          · exact HSub.pick 0 rfl (HSub.pick 0 rfl (HSub.pick 0 rfl (HSub.pick 0 rfl (HSub.pick 0 rfl (HSub.nil _)))))
        · have h33 := of_decide_eq_false h33
          refine RunC.exit ?_
          refine Ends.then_exit ?_
          refine Ends.then_exit ?_
          refine Ends.block_exit ?_
          refine Ends.then ?_
          refine RunC.region ?_
          refine RunL.still rfl rfl rfl (Still.move rfl rfl) ?_
          refine RunL.still rfl rfl rfl (Still.move rfl rfl) ?_
          refine RunL.grows rfl rfl rfl (Grows.slice1 rfl rfl Tryz.underlying59 Tryz.sizeOf9 rfl Tryz.zeroValue9 (by decide)) (fun b43 _ => ?_)
          refine RunL.does rfl rfl rfl (Does.appendTo (n' := (c + 1)) (xs' := (strs ((d.cross.take c).map crS ++ [crTo x p]))) (news := [_]) rfl rfl rfl rfl (i := 2) rfl Tryz.underlying59 (by kernel_rfl : (_ : Option _) = some (some (.string ⟨#[]⟩), 1, 16)) rfl rfl (fun _ hs => cells_nth (hs.at (i := 0) rfl) ⟨rfl, trivial⟩) rfl rfl (by omega) (by omega) (rfl) (strs_snoc _ _)) (fun v44 hv44 => ?_)
          refine RunL.still rfl rfl rfl (Still.assign rfl rfl) ?_
          refine RunL.nil ?_
          refine Ends.block ?_
          refine Ends.then ?_
          refine RunC.region ?_
          refine RunL.still rfl rfl rfl (Still.add rfl rfl rfl (fits64 (by omega) (by omega))) ?_
          refine RunL.still rfl rfl rfl (Still.move rfl rfl) ?_
          refine RunL.nil ?_
          obtain rfl : p = 4 := by omega
          refine Ends.again (v44, c + 1) ?_ ?_ (Fr.Sub.app ?_ ?_) ?_
          · show c + 1 ≤ _; omega
          · show _ - (c + 1) < _ - c; omega
          · exact Fr.Sub.cons rfl (Fr.Sub.cons rfl (Fr.Sub.nil _))
          · exact Fr.Sub.cons rfl (Fr.Sub.cons rfl (Fr.Sub.cons rfl (Fr.Sub.nil _)))
          · exact HSub.pick 2 (by rw [List.take_add_one, hx]; simp only [Option.toList_some, List.map_append, List.map_cons, List.map_nil]; rfl) (HSub.pick 2 rfl (HSub.pick 2 rfl (HSub.pick 2 rfl (HSub.nil _))))
    · have h24 := of_decide_eq_false h24
      have hcl : c ≤ d.cross.length := hcl
      obtain rfl : c = d.cross.length := by omega
      refine RunC.exit ?_
      refine Ends.then_exit ?_
      refine Ends.then_exit ?_
      refine Ends.block_exit ?_
      refine Ends.then ?_
      refine RunC.seq ?_
      refine RunC.seq ?_
      refine RunC.region ?_
      refine RunL.still rfl rfl rfl (Still.move rfl rfl) ?_
      refine RunL.still rfl rfl rfl (Still.lenOwn rfl rfl Tryz.underlying59 (fun _ hs => hs.own (i := 0) rfl)) ?_
      refine RunL.still rfl rfl rfl (Still.eql rfl rfl rfl) ?_
      refine RunL.nil ?_
      refine Ends.then ?_
      refine RunC.cond rfl (fun h48 => ?_) (fun h48 => ?_)
      · have h48 := of_decide_eq_true h48
        refine RunC.seq ?_
        refine RunC.region ?_
        refine RunL.still rfl rfl rfl (Still.fieldAddrL (off := 0) (off' := 1) rfl rfl Tryz.underlying24 rfl Tryz.sizeOf3 rfl) ?_
        refine RunL.still rfl rfl rfl (Still.load rfl rfl Tryz.isAgg3 (fun _ hs => cell_nth (hs.at (i := 3) rfl) rfl)) ?_
        refine RunL.grows rfl rfl rfl (Grows.call (vs := #[_]) rfl rfl Tryz.call32 (fun w hs => z_ItoaP d.loops w (he.sym hs) (by omega) (by omega))) (fun _ _ => ?_)
        refine RunL.still rfl rfl rfl (Still.assign rfl rfl) ?_
        refine RunL.still rfl rfl rfl (Still.assign rfl rfl) ?_
        refine RunL.nil ?_
        refine Ends.then ?_
        refine RunC.ret ?_
        refine Ends.then_ret ?_
        refine Ends.leave (.inl rfl) (fun _ _ ok => results2 Tryz.results7 (Holds.tmp rfl) (Holds.tmp rfl) ok) (fun w1 hs => ?_)
        exact Ret.intro () trivial (by rw [textOf, if_pos (by omega)]) (HSub.nil _) hs
      · have h48 := of_decide_eq_false h48
        refine RunC.know (fun _ hs => own_open (hs.own (i := 0) rfl) (by omega)) (fun ho => ?_)
        obtain ⟨g, oc, hvv, hoc⟩ := ho
        subst hvv
        refine RunC.conv (fun _ hs => hs.re 0 rfl (show _ = HL.own 9 1 (.slice (some ⟨g, 0, none⟩) d.cross.length oc) d.cross.length (strs (d.cross.map crS)) by rw [List.take_length])) ?_
        refine RunC.skip ?_
        refine Ends.then ?_
        refine RunC.seq ?_
        refine RunC.draw 8 (.still 0 (.still 3 (.still 4 (.one 1 (.still 2 (.one 5 (.still 6 (.still 7 .done)))))))) (by kernel_rfl) (by kernel_rfl) ?_
        refine RunG.still rfl rfl rfl rfl (Still.move rfl rfl) ?_
        refine RunG.still rfl rfl rfl rfl (Still.fieldAddrL (off := 0) (off' := 1) rfl rfl Tryz.underlying24 rfl Tryz.sizeOf3 rfl) ?_
        refine RunG.still rfl rfl rfl rfl (Still.load rfl rfl Tryz.isAgg3 (fun _ hs => cell_nth (hs.at (i := 3) rfl) rfl)) ?_
        refine RunG.grows rfl rfl rfl rfl (Grows.call (vs := #[_, _]) rfl rfl Tryz.call33 (fun w hs => z_Join g oc _ (d.cross.map crS) w (by simp) (own_all (hs.own (i := 0) rfl)) (hs.supp _ (List.mem_of_getElem? (i := 0) rfl) g rfl).1 (by rw [List.length_map]; omega) (by rw [List.length_map]; omega) (crS_mid hsm))) (fun _ _ => ?_)
        refine RunG.still rfl rfl rfl rfl (Still.cat rfl rfl rfl (by have := joinS_size (crS_mid hsm); rw [List.length_map] at this; show (joinS _).size + 3 ≤ _; omega)) ?_
        refine RunG.grows rfl rfl rfl rfl (Grows.call (vs := #[_]) rfl rfl Tryz.call32 (fun w hs => z_ItoaP d.loops w (he.sym hs) (by omega) (by omega))) (fun _ _ => ?_)
        refine RunG.still rfl rfl rfl rfl (Still.cat rfl rfl rfl (by have := joinS_size (crS_mid hsm); rw [List.length_map] at this; have h2 := numS_mid hlo hsl; rw [ByteArray.size_append]; show (joinS _).size + 3 + _ ≤ _; omega)) ?_
        refine RunG.still rfl rfl rfl rfl (Still.assign rfl rfl) ?_
        refine RunG.done ?_
        show RunL _ _ _ [_] _ _
        refine RunL.still rfl rfl rfl (Still.assign rfl rfl) ?_
        refine RunL.nil ?_
        refine Ends.then ?_
        refine RunC.ret ?_
        refine Ends.leave (.inl rfl) (fun _ _ ok => results2 Tryz.results7 (Holds.tmp rfl) (Holds.tmp rfl) ok) (fun w2 hs => ?_)
        exact Ret.intro () trivial (by rw [textOf, if_neg (by omega)]; rfl) (HSub.nil _) hs

end Go.Proofs
/- The proof layer, part q: a region that draws its order, in which a call dies; deferred calls and recovery. -/
namespace Go.V
open Go
section drawx
variable {r : Option Nat} {P : Program} {ops : Array Oper} {md : Region.Mode}
/-- The only way out is a panic; X: what is there. -/
def PQ (X : List PanicEntry → Act → World → Prop) : Exit → Act → World → Prop
  | .panic ch, a, w => X ch a w
  | _, _, _ => False
theorem opIn_putX {X : List PanicEntry → Act → World → Prop} {j : Nat} {oi oj : Oper} {v : Value} {K : Act → World → Prop} {a : Act} {w : World} (hX : ∀ ch a w, X ch (a.put oi.dst v) w → X ch a w) (hj : ops[j]? = some oj) (hap : oi.apart ops oj = true) (hsj : ∀ cs b, oj.op ≠ .select cs b) (hdj : ∀ c, oj.op ≠ .defer c)
    (h : wpOpIn (FW r) 0 P ops (PQ X) j K (a.put oi.dst v) w) : wpOpIn (FW r) 0 P ops (PQ X) j (fun a' w' => But a a' oj.dst ∧ K (a'.put oi.dst v) w') a w := by
  obtain ⟨h1, h2, h3⟩ := Oper.apart_spec hap
  have com : ∀ (a : Act) u, (a.put oi.dst v).put oj.dst u = (a.put oj.dst u).put oi.dst v := fun a u => Act.put_comm a v u h2
  have but : ∀ u, But a (a.put oj.dst u) oj.dst := fun u => ⟨a.defers, u, rfl⟩
  unfold wpOpIn at *
  simp only [hj] at *
  rw [wanted_put oj a oi.dst v h1] at h
  split
  · rename_i hw
    simp only [hw, if_true] at h
    obtain ⟨_, h⟩ := h
    refine ⟨fun _ _ => trivial, ?_⟩
    rw [Oper.semAt_eq _ _ _ hdj] at h ⊢
    rw [execOp_put oj hsj a oi.dst v h1] at h
    generalize (execOp a.eval oj).run P w = res at *
    cases res with
    | ok n w' =>
      cases n <;> simp only [Oper.uponIn] at h ⊢
      case value u => exact ⟨but u, by rw [← com]; exact h⟩
      case skip => exact ⟨but undef, by rw [← com]; exact h⟩
      case defer d =>
        refine ⟨⟨d :: a.defers, undef, rfl⟩, ?_⟩
        rw [Act.put_defers] at h
        rw [← com]; exact h
      case enter f args =>
        exact ⟨h.1, CallsIn.mono h.2 fun e w'' he => by
          cases e with
          | returned u => exact ⟨but u, by rw [← com]; exact he⟩
          | panicked c => exact hX _ _ _ he
          | outgrown => exact he⟩
      case row row args => exact ⟨h.1, RowsIn.mono h.2 fun u w'' he => ⟨but u, by rw [← com]; exact he⟩⟩
      case round l f tmps asg body =>
        exact ⟨h.1, RoundIn.mono h.2 fun e w'' he => by
          cases e with
          | returned u => exact ⟨but u, by rw [← com]; exact he⟩
          | panicked c => exact hX _ _ _ he
          | outgrown => exact he⟩
    | halt x w' => cases x <;> simp only [Oper.uponIn] at h ⊢ <;> first | exact h | exact hX _ _ _ h
  · rename_i hw
    simp only [hw] at h
    exact ⟨fun _ _ => trivial, but undef, by rw [← com]; exact h.2⟩
def wpHeadX (r : Option Nat) (P : Program) (md : Region.Mode) (ops : Array Oper) (n : Nat) (X : List PanicEntry → Act → World → Prop) : Nat → Array Bool → Act → World → Prop
  | 0, _, _, _ => False
  | f + 1, listed, a, w => Region.ready md ops listed ≠ [] ∧ ∀ i ∈ Region.ready md ops listed, i < n ∧ wpOpIn (FW r) 0 P ops (PQ X) i (fun a' w' => Old Nil w w' ∧ wpHeadX r P md ops n X f (listed.setIfInBounds i true) a' w') a w
theorem opIn_QX {X : List PanicEntry → Act → World → Prop} {i : Nat} {K : Act → World → Prop} {Q : Exit → Act → World → Prop} {a : Act} {w : World} (hXQ : ∀ ch a w, X ch a w → Q (.panic ch) a w) (h : wpOpIn (FW r) 0 P ops (PQ X) i K a w) : wpOpIn (FW r) 0 P ops Q i K a w := by
  unfold wpOpIn at *
  split
  · simpa [*] using h
  · rename_i o ho
    simp only [ho] at h
    split
    · rename_i hw
      simp only [hw, if_true] at h
      refine ⟨h.1, ?_⟩
      have h := h.2
      generalize (o.semAt (FW r).round a.eval).run P w = res at *
      cases res with
      | ok n w' =>
        cases n <;> simp only [Oper.uponIn] at h ⊢ <;>
          first
            | exact h
            | exact ⟨h.1, CallsIn.mono h.2 fun e w'' he => by cases e <;> first | exact he | exact hXQ _ _ _ he | exact absurd he (by simp [PQ, LetsOut])⟩
            | exact ⟨h.1, RoundIn.mono h.2 fun e w'' he => by cases e <;> first | exact he | exact hXQ _ _ _ he | exact absurd he (by simp [PQ, LetsOut])⟩
      | halt x w' => cases x <;> simp only [Oper.uponIn] at h ⊢ <;> first | exact h | exact hXQ _ _ _ h | exact h.elim
    · rename_i hw
      simp only [hw] at h
      exact h
theorem wpAny_of_headX {X : List PanicEntry → Act → World → Prop} {n g : Nat} {Q : Exit → Act → World → Prop} (hXQ : ∀ ch a w, X ch a w → Q (.panic ch) a w) :
    ∀ (f : Nat) (listed : Array Bool) (a : Act) (w : World), wpHeadX r P md ops n X f listed a w → wpAnyIn (FW r) 0 P md ops Q (f + g) listed a w
  | 0, listed, a, w, h => h.elim
  | f + 1, listed, a, w, h => by
    rw [show f + 1 + g = (f + g) + 1 by omega]
    exact ⟨fun h0 => absurd h0 h.1, fun i hi => opIn_QX hXQ (wpOpIn_mono (fun a' w' h' => wpAny_of_headX hXQ f _ a' w' h'.2) (h.2 i hi).2)⟩
theorem wpHead_firstX {X : List PanicEntry → Act → World → Prop} {n i : Nat} {oi : Oper} {v : Value} (hX : ∀ ch a w, X ch (a.put oi.dst v) w → X ch a w) (hi : ops[i]? = some oi) (hsel : Region.noSelect ops = true) (hdef : noDefer ops = true)
    (hs : Region.sinkB md ops n = true) (hc : Region.chainB md ops n = true) (hn : n < ops.size) (hin : i < n) :
    ∀ (f : Nat) (listed : Array Bool) (a : Act) (w : World), HeadInv md ops n listed →
      (∀ j oj, ops[j]? = some oj → j ≠ i → listed.getD j true = false → (∀ e ∈ oj.after, Region.binds md e = true → e.on ≠ i) → oi.apart ops oj = true) →
      i ∈ Region.ready md ops listed → Yields' P ops oi v a w →
      wpHeadX r P md ops n X f (listed.setIfInBounds i true) (a.put oi.dst v) w → wpHeadX r P md ops n X (f + 1) listed a w := by
  intro f
  induction f with
  | zero => intro listed a w _ _ _ _ H; exact H.elim
  | succ f ih =>
    intro listed a w inv hfree hr hy H
    have hun := (mem_ready.1 hr).1
    refine ⟨fun h => (by rw [h] at hr; cases hr), fun j hj => ?_⟩
    have hjn : j < n := by
      rcases Nat.lt_or_ge j n with h | h
      · exact h
      · exact absurd hj (tail_waits hs hc hn inv _ i rfl hin hun j h)
    refine ⟨hjn, ?_⟩
    by_cases hji : j = i
    · subst hji; exact hy.opIn hi (fun c => noDefer_spec hdef j oi c hi) ⟨Old.refl _ w, H⟩
    · have h1 := (H.2 j (ready_mono hj hji)).2
      obtain ⟨hjun, oj, hoj, hall⟩ := mem_ready.1 hj
      have hnot : ∀ e ∈ oj.after, Region.binds md e = true → e.on ≠ i := fun e he hb heq => by
        have h1 := hall e he hb
        rw [heq, getD_both hun] at h1
        cases h1
      have hap := hfree j oj hoj hji hjun hnot
      have h2 := opIn_putX hX hoj hap (fun cs b => Region.noSelect_spec hsel j oj cs b hoj) (fun c => noDefer_spec hdef j oj c hoj) h1
      have hfree' : ∀ k ok, ops[k]? = some ok → k ≠ i → (listed.setIfInBounds j true).getD k true = false →
          (∀ e ∈ ok.after, Region.binds md e = true → e.on ≠ i) → oi.apart ops ok = true := fun k ok hk hki hun hno => by
        refine hfree k ok hk hki ?_ hno
        by_cases hjk : j = k
        · subst hjk; exact hjun
        · rw [getD_set_ne true hjk] at hun; exact hun
      refine wpOpIn_mono (fun a' w' h3 => ⟨h3.2.1, ?_⟩) h2
      refine ih (listed.setIfInBounds j true) a' w' (inv.set hj hjn) hfree' (ready_mono hr (Ne.symm hji)) ((hy.but (fun cs b => Region.noSelect_spec hsel i oi cs b hi) h3.1 (Oper.apart_spec hap).2.2).later h3.2.1) ?_
      rw [Array.setIfInBounds_comm _ _ hji]
      exact h3.2.2
def GoesX (r : Option Nat) (P : Program) (ops : Array Oper) (X : List PanicEntry → Act → World → Prop) : List Nat → Nat → Act → World → Prop
  | [], k, a, w => wpOpIn (FW r) 0 P ops (PQ X) k (fun _ _ => False) a w
  | i :: l, k, a, w => ∃ o v, ops[i]? = some o ∧ Yields' P ops o v a w ∧ GoesX r P ops X l k (a.put o.dst v) w
def lexX (md : Region.Mode) (ops : Array Oper) (n : Nat) : List Nat → Nat → Array Bool → Bool
  | [], k, listed => decide (Region.ready md ops listed = [k]) && Nat.blt k n
  | i :: l, k, listed => (Region.ready md ops listed).contains i && Region.free md ops listed i && Nat.blt i n && lexX md ops n l k (listed.setIfInBounds i true)
theorem wpHead_of_goesX {X : List PanicEntry → Act → World → Prop} {n : Nat} (hX : ∀ (i : Nat) (o : Oper), ops[i]? = some o → ∀ v ch a w, X ch (a.put o.dst v) w → X ch a w) (hsel : Region.noSelect ops = true) (hdef : noDefer ops = true) (hs : Region.sinkB md ops n = true) (hc : Region.chainB md ops n = true) (hn : n < ops.size) :
    ∀ (l : List Nat) (k : Nat) (listed : Array Bool) (a : Act) (w : World), HeadInv md ops n listed → lexX md ops n l k listed = true → GoesX r P ops X l k a w → wpHeadX r P md ops n X (l.length + 1) listed a w
  | [], k, listed, a, w, inv, hB, h => by
    simp only [lexX, Bool.and_eq_true, decide_eq_true_eq] at hB
    obtain ⟨hr, hkn⟩ := hB
    refine ⟨by rw [hr]; simp, fun i hi => ?_⟩
    rw [hr] at hi
    obtain rfl : i = k := by simpa using hi
    exact ⟨by simpa using hkn, wpOpIn_mono (fun _ _ h => h.elim) h⟩
  | i :: l, k, listed, a, w, inv, hB, h => by
    simp only [lexX, Bool.and_eq_true] at hB
    obtain ⟨⟨⟨hr, hf⟩, hin⟩, hB'⟩ := hB
    have hin' : i < n := by simpa using hin
    obtain ⟨o, v, ho, hy, hK⟩ := h
    have hr' : i ∈ Region.ready md ops listed := by simpa using hr
    exact wpHead_firstX (hX i o ho v) ho hsel hdef hs hc hn hin' (l.length + 1) listed a w inv (Region.free_spec ho hf) hr' hy
      (wpHead_of_goesX hX hsel hdef hs hc hn l k _ _ _ (inv.set hr' hin') hB' hK)
def drawXB (ops : Array Oper) (n : Nat) (l : List Nat) (k : Nat) : Bool :=
  Region.noSelect ops && noDefer ops && Nat.blt n ops.size && Region.sinkB .any ops n && Region.chainB .any ops n && Nat.ble (l.length + 1) ops.size && lexX .any ops n l k (Array.replicate ops.size false)
theorem wpIn_drawX {X : List PanicEntry → Act → World → Prop} {id : Nat} {Q : Exit → Act → World → Prop} {a : Act} {w : World} {l : List Oper} (n : Nat) (st : List Nat) (k : Nat) (hm : P.follows .mixedOrders = true) (hB : drawXB l.toArray n st k = true)
    (hX : ∀ (i : Nat) (o : Oper), l.toArray[i]? = some o → ∀ v ch a w, X ch (a.put o.dst v) w → X ch a w) (hXQ : ∀ ch a w, X ch a w → Q (.panic ch) a w)
    (h : GoesX r P l.toArray X st k a w.drew) : (Code.region id l.toArray true).wpIn (FW r) 0 P Q a w := by
  simp only [drawXB, Bool.and_eq_true] at hB
  obtain ⟨⟨⟨⟨⟨⟨hsel, hdef⟩, hn⟩, hs⟩, hc⟩, hlen⟩, hlex⟩ := hB
  have hn' : n < l.length := by simpa using hn
  have hlen' : st.length + 1 ≤ l.length := by simpa using hlen
  have inv0 : HeadInv .any l.toArray n (Array.replicate l.toArray.size false) :=
    ⟨by simp, fun j oj _ hl => (by rw [getD_replicate_false] at hl; cases hl), fun t _ ht => getD_in (by simpa using ht) (getD_replicate_false _ _)⟩
  have H := wpHead_of_goesX (r := r) (P := P) (md := .any) hX hsel hdef hs hc (by simpa using hn') st k _ a w.drew inv0 hlex h
  refine wpIn_region_any hm ?_
  have := wpAny_of_headX (Q := Q) (g := l.length - (st.length + 1)) hXQ _ _ _ _ H
  rw [show st.length + 1 + (l.length - (st.length + 1)) = l.toArray.size by simp; omega] at this
  exact this
end drawx
/-- What is there where a call dies. -/
def XOk (C : Cx) (u : Value) (F : Fr) (L : List HL) : List PanicEntry → Act → World → Prop := fun ch a w => ch = [{ v := u, recovered := false }] ∧ Ok C F L a w
def RunX (C : Cx) (ops : Array Oper) (X : List PanicEntry → Act → World → Prop) (st : List Nat) (k : Nat) (F : Fr) (L : List HL) : Prop := ∀ a w, Ok C F L a w → GoesX C.r C.P ops X st k a w
def dstsOut (l : List Oper) (F : Fr) : Bool := l.all fun o => match o.dst with | none => true | some d => F.all fun p => !(Nat.beq p.1 d)
theorem Fr.get_keys {F : Fr} {t : Nat} {v : Value} (h : F.get t = some v) : ∃ p ∈ F, p.1 = t := by
  induction F with
  | nil => cases h
  | cons p r ih =>
    obtain ⟨k, u⟩ := p
    rw [Fr.get_cons] at h
    by_cases e : k = t
    · exact ⟨(k, u), List.mem_cons_self .., e⟩
    · rw [if_neg e] at h
      obtain ⟨q, hq, e2⟩ := ih h
      exact ⟨q, List.mem_cons_of_mem _ hq, e2⟩
section
variable {C : Cx} {Q : Exit → Act → World → Prop} {F F' : Fr} {L L' : List HL} {ops : Array Oper} {o : Oper} {i k : Nat} {st : List Nat} {u : Value} {X : List PanicEntry → Act → World → Prop}
theorem RunC.drawX {id : Nat} {l : List Oper} (n : Nat) (st : List Nat) (k : Nat) (F' : Fr) (L' : List HL) (hm : C.P.follows .mixedOrders = true) (hB : drawXB l.toArray n st k = true) (hd : dstsOut l F' = true) (_ : F'.Sub F) (_ : HSub L' L)
    (h : RunX C l.toArray (XOk C u F' L') st k F L) (he : Ends C (.panic [{ v := u, recovered := false }]) Q F' L') : RunC C (.region id l.toArray true) Q F L := fun a w ok => by
  refine wpIn_drawX n st k hm hB (fun i o ho v ch a w hx => ⟨hx.1, ⟨⟨?_, ?_, fun t x ht => ?_⟩, hx.2.sym⟩⟩) (fun ch a w hx => by rw [hx.1]; exact he a w hx.2) (h a w.drew ⟨ok.fr, ok.sym.drew⟩)
  · have := hx.2.fr.size
    cases hdst : o.dst with
    | none => rw [hdst] at this; exact this
    | some d => rw [hdst] at this; simpa [Act.put] using this
  · have := hx.2.fr.defers
    cases hdst : o.dst with
    | none => rw [hdst] at this; exact this
    | some d => rw [hdst] at this; simpa [Act.put] using this
  · have h1 := hx.2.fr.slot t x ht
    cases hdst : o.dst with
    | none => rw [hdst] at h1; exact h1
    | some d =>
      rw [hdst] at h1
      have hne : d ≠ t := by
        have hmem : o ∈ l := by
          have := Array.mem_of_getElem? ho
          simpa using this
        have h2 := List.all_eq_true.1 hd o hmem
        rw [hdst] at h2
        obtain ⟨p, hp, rfl⟩ := Fr.get_keys ht
        have h3 := List.all_eq_true.1 h2 p hp
        intro e
        subst e
        simp at h3
      simp only [Act.put] at h1
      rw [Array.getElem?_setIfInBounds_ne hne] at h1
      exact h1
theorem RunX.still {d : Nat} {v : Value} (ho : ops[i]? = some o) (hw : wants ops F o = some true) (hd : o.dst = some d) (hn : Nat.blt d C.n = true) (hs : Still C o F L v) (h : RunX C ops X st k ((d, v) :: F) L) : RunX C ops X (i :: st) k F L := fun a w ok => by
  refine ⟨o, v, ho, .inl ⟨wants_ok ok hw, fun w' hold => hs.2 a w' ⟨ok.fr, ok.sym.grow0 hold⟩⟩, h _ w ?_⟩
  rw [hd]
  exact ⟨ok.fr.put (by simpa using hn) v, ok.sym⟩
theorem RunX.dies {f : FuncId} {xs : Array Operand} {ts : Array TypeId} {vs : Array Value} (hi : ops[k]? = some o) (hw : wants ops F o = some true) (ho : o.op = .call { callee := .value (.func f), args := xs, argTypes := ts })
    (hv : xs.toList.map F.ev = vs.toList.map some) (hc : ∀ args w, (callFunc f args).run C.P w = .ok (.enter f args) w) (hfn : ∀ w, Sym C.w0 C.S L w → Dies C.P f vs w u) (hF : F'.Sub F) (hL : HSub L' L) : RunX C ops (XOk C u F' L') [] k F L := fun a w ok => by
  show wpOpIn _ _ _ _ _ _ _ _ _
  unfold wpOpIn
  simp only [hi, wants_ok ok hw, if_true]
  refine ⟨fun _ _ => trivial, ?_⟩
  rw [Oper.semAt_eq _ _ _ (fun c h => by rw [ho] at h; cases h)]
  have e := eval_list ok hv
  have hrun : (execOp a.eval o).run C.P w = .ok (.enter f vs) w := by
    simp only [execOp, ho, resolve, e]
    simp [Act.eval, Deferred.ofValue, invoke, hc]
  rw [hrun, Oper.uponIn_enter]
  refine ⟨fun h => by simp [FW] at h, callsFW.2 ((hfn w ok.sym).mono ?_)⟩
  rintro en w' ⟨rfl, hs⟩
  exact ⟨rfl, Ok.sub ⟨ok.fr, ok.sym.grow0 hs.old⟩ hF hL⟩
/-! ### Deferred calls -/
/-- A closure without arguments is deferred. -/
theorem RunL.defer {l : List Oper} {x : Operand} {ts : Array TypeId} {fv : Fn} {first cap : Array Value} (hr : C.r = none) (hw : wants ops F o = some true) (ho : o.op = .defer { callee := .value x, args := #[], argTypes := ts }) (hd : o.dst = none) (hx : F.ev x = some (.func fv first cap))
    (h : RunL { C with D := { target := .fn fv cap, args := first } :: C.D } ops Q l F L) : RunL C ops Q (o :: l) F L := fun a w ok => by
  unfold wpListIn
  rw [wants_ok ok hw, if_pos rfl]
  refine ⟨fun _ _ => trivial, ?_⟩
  rw [show (FW C.r).round = none from hr, Oper.semAt_none]
  have hrun : (execOp a.eval o).run C.P w = .ok (.defer { target := .fn fv cap, args := first }) w := by
    simp only [execOp, ho, resolve, ok.fr.ev hx]
    simp [Deferred.ofValue]
  rw [hrun, Oper.uponIn_defer, hd]
  exact h _ w ⟨⟨ok.fr.size, by show _ :: a.defers = _ :: C.D; rw [ok.fr.defers], ok.fr.slot⟩, ok.sym⟩
theorem fn_of_runD {P : Program} {f : FuncId} {fn : Func} {c : Code} {args : List Value} {n : Nat} {w : World} {S : Nat → Prop} {L : List HL} {R : Ending → World → Prop}
    (hf : P.funcs[f]? = some fn) (hb : fn.body = some c) (hn : fn.ntmps = n) (hl : args.length ≤ n) (hs : Sym w S L w)
    (h : RunC ⟨P, none, n, [], w, S⟩ c (bodyPostDIn (FW none) 0 P fn R) (entry 0 args) L) : Calls P f args.toArray w R := by
  refine (callsFW (r := none) (n := 0)).1 (callsIn_of_wp_defers hf hb trivial ?_)
  refine h _ w ⟨⟨?_, rfl, fun t v ht => ?_⟩, hs⟩
  · simp [hn]; omega
  · obtain ⟨k, hk, hv⟩ := entry_get args 0 t v ht
    have : t = k := by omega
    subst this
    have hlt : t < args.length := (List.getElem?_eq_some_iff.1 hv).1
    simp [Array.getElem?_append, hlt]
    simpa [List.getElem?_eq_getElem hlt] using hv
/-- Leaving without deferred calls. -/
theorem Ends.leaveD0 {fn : Func} {R : Ending → World → Prop} {v : Value} {e : Exit} (he : e = .ret ∨ e = .normal) (hD : C.D = [])
    (hr : ∀ a w, Ok C F L a w → (results fn a.tmps).run C.P w = .ok v w) (hR : ∀ w', Sym C.w0 C.S L w' → R (.returned v) w') : Ends C e (bodyPostDIn (FW none) 0 C.P fn R) F L := fun a w ok => by
  have : LeavesIn (FW none) 0 C.P fn a.tmps R a.defers .returning w := by
    rw [ok.fr.defers, hD]; exact ⟨v, hr a w ok, hR w ok.sym⟩
  rcases he with rfl | rfl <;> exact this
/-- The mode in which a frame leaves. -/
def modeOf : Exit → FrameMode
  | .panic ch => .panicking ch
  | _ => .returning
/-- One deferred closure, which comes back. -/
def CallsBack (P : Program) (f : FuncId) (args : Array Value) (u u' : FrameMode) (w : World) (S : Nat → Prop) (H : List HL) : Prop := CallsDIn (FW none) 0 P f args u w fun e u2 w' => (∃ v, e = .returned v) ∧ u2 = u' ∧ Sym w S H w'
theorem Ends.leaveD {fn : Func} {R : Ending → World → Prop} {v : Value} {e : Exit} {fv : Fn} {cap first : Array Value} {f : FuncId} {args : Array Value} {u' : FrameMode} {S' : Nat → Prop} {K H Rr : List HL} (he : (e = .ret ∨ e = .normal) ∨ ∃ ch, e = .panic ch)
    (hD : C.D = [{ target := .fn fv cap, args := first }]) (hinv : ∀ w, (invoke (.fn fv cap) first).run C.P w = .ok (.enter f args) w) (hset : settle u' = .returning) (hL : HSub (K ++ Rr) L) (hk : ∀ b, S' b → ∃ k ∈ K, k.supp b)
    (hc : ∀ w, Sym C.w0 C.S (K ++ Rr) w → CallsBack C.P f args (modeOf e) u' w S' H)
    (hr : ∀ a w, Ok C F (H ++ Rr) a w → (results fn a.tmps).run C.P w = .ok v w) (hR : ∀ w', Sym C.w0 C.S (H ++ Rr) w' → R (.returned v) w') : Ends C e (bodyPostDIn (FW none) 0 C.P fn R) F L := fun a w ok => by
  have key : LeavesIn (FW none) 0 C.P fn a.tmps R a.defers (modeOf e) w := by
    rw [ok.fr.defers, hD]
    have hsub := ok.sym.sub hL
    refine leavesIn_cons ?_ (fun h => by simp [FW] at h) (hinv w) (fun _ _ => trivial) (CallsDIn.mono (hc w hsub) ?_)
    · rcases he with (rfl | rfl) | ⟨ch, rfl⟩ <;> simp [modeOf]
    · rintro en u2 w' ⟨⟨x, rfl⟩, rfl, hs⟩
      have hs' := hsub.handed (fun b hb _ => hk b hb) hs
      show LeavesIn (FW none) 0 C.P fn a.tmps R [] (settle _) w'
      rw [hset]
      exact ⟨v, hr a w' ⟨ok.fr, hs'⟩, hR w' hs'⟩
  rcases he with (rfl | rfl) | ⟨ch, rfl⟩ <;> exact key
end
end Go.V
/- The proof layer, part r: a deferred closure that recovers. -/
namespace Go.V
open Go
/-- What 'recover' hands back, and the mode of the frame below then. -/
def recovered : FrameMode → Value × FrameMode
  | .panicking ({ v, recovered := false, goexit := false } :: older) => (v, .panicking ({ v, recovered := true } :: older))
  | m => (.nilIface, m)
theorem wpS_recover {P : Program} {Q : Exit → Act → List Frame → World → Prop} {a : Act} {c : Frame} {cs : List Frame} {w : World} {id : Nat} {o1 o2 : Oper} {d d2 : Nat} {rv : Value} {u' : FrameMode}
    (h1 : o1.op = .call { callee := .builtin .recover, args := #[], argTypes := #[] }) (g1 : o1.guard = none) (d1 : o1.dst = some d) (h2 : o2.op = .assign (.tmp d)) (g2 : o2.guard = none) (e2 : o2.dst = some d2) (hd : d < a.tmps.size)
    (hu : recovered c.mode = (rv, u')) (h : Q .normal ((a.put (some d) rv).put (some d2) rv) ({ c with mode := u' } :: cs) w) : (Code.region id #[o1, o2] false).wpSIn (FW none) 0 P Q a (c :: cs) w := by
  refine wpSIn_region ?_
  have hput : ∀ x : Value, (a.put (some d) x).eval (.tmp d) = x := fun x => by
    simp [Act.eval, Act.put, Array.getD_eq_getD_getElem?, hd]
  have hr : (execOp a.eval o1).run P w = .ok .recover w := by
    simp only [execOp, h1, resolve]
    rfl
  show wpOpsSIn (FW none) 0 P #[o1, o2] Q [0, 1] a (c :: cs) w
  have hlast : ∀ cs', Q .normal ((a.put (some d) rv).put (some d2) rv) cs' w → wpOpsSIn (FW none) 0 P #[o1, o2] Q [1] (a.put (some d) rv) cs' w := fun cs' hq => by
    have hr2 : (execOp (a.put (some d) rv).eval o2).run P w = .ok (.value rv) w := by
      simp only [execOp, h2, hput]
      rfl
    simp only [wpOpsSIn]
    simp only [List.getElem?_toArray, List.getElem?_cons_succ, List.getElem?_cons_zero, Region.wanted, g2, hr2, e2]
    exact ⟨fun _ _ => trivial, by simpa using hq⟩
  rw [wpOpsSIn]
  simp only [List.getElem?_toArray, List.getElem?_cons_zero, Region.wanted, g1, hr, d1]
  refine ⟨fun _ _ => trivial, ?_⟩
  simp only [if_true]
  unfold recovered at hu
  unfold recoverD
  simp only
  split at hu
  · rename_i v older hm
    cases hu
    simp only [hm]
    exact hlast _ h
  · rename_i hno
    cases hu
    split
    · rename_i x cs' hx
      split at hx
      · rename_i v older hm
        exact absurd hm (hno v older)
      · cases hx
    · exact hlast _ h
theorem callsBack_recover {P : Program} {f : FuncId} {fn : Func} {id : Nat} {o1 o2 : Oper} {rest : Code} {args : List Value} {n d d2 : Nat} {w : World} {S : Nat → Prop} {L H : List HL} {u u' : FrameMode} {rv : Value}
    (hf : P.funcs[f]? = some fn) (hb : fn.body = some ((Code.region id #[o1, o2] false).seq rest)) (h1 : o1.op = .call { callee := .builtin .recover, args := #[], argTypes := #[] }) (g1 : o1.guard = none) (d1 : o1.dst = some d) (h2 : o2.op = .assign (.tmp d)) (g2 : o2.guard = none) (e2 : o2.dst = some d2)
    (hn : fn.ntmps = n) (hl : args.length ≤ n) (hdn : Nat.blt d n = true) (hdn2 : Nat.blt d2 n = true) (hres : fn.results = #[]) (hs : Sym w S L w) (hu : recovered u = (rv, u'))
    (h : RunC ⟨P, none, n, [], w, S⟩ rest (fun e a w' => (e = .normal ∨ e = .ret) ∧ a.defers = [] ∧ Sym w S H w') ((d2, rv) :: (d, rv) :: entry 0 args) L) : CallsBack P f args.toArray u u' w S H := by
  refine callsDIn_of_wpSIn hf hb trivial (fun c₀ cs hc => ?_)
  have hat : At n [] (entry 0 args) { tmps := args.toArray ++ Array.replicate (fn.ntmps - args.toArray.size) undef, defers := [] } := by
    refine ⟨?_, rfl, fun t v ht => ?_⟩
    · simp [hn]; omega
    · obtain ⟨k, hk, hv⟩ := entry_get args 0 t v ht
      have : t = k := by omega
      subst this
      have hlt : t < args.length := (List.getElem?_eq_some_iff.1 hv).1
      simp [Array.getElem?_append, hlt]
      simpa [List.getElem?_eq_getElem hlt] using hv
  refine wpSIn_seq (wpS_recover (rv := rv) (u' := u') h1 g1 d1 h2 g2 e2 (by rw [hat.size]; simpa using hdn) (by rw [hc]; exact hu) ?_)
  show rest.wpSIn _ _ _ _ _ _ _
  refine wpSIn_of_wpIn rfl ?_
  refine wpIn_mono (h _ w ⟨(hat.put (by simpa using hdn) rv).put (by simpa using hdn2) rv, hs⟩) ?_
  rintro e a w' ⟨he, hd, hsym⟩
  rcases he with rfl | rfl <;> exact ⟨hd, u', rfl, .tuple #[], by simp [results, hres], ⟨_, rfl⟩, rfl, hsym⟩
theorem Ends.back {C : Cx} {F : Fr} {L H : List HL} {e : Exit} (he : e = .ret ∨ e = .normal) (hD : C.D = []) (hL : HSub H L) : Ends C e (fun e a w' => (e = .normal ∨ e = .ret) ∧ a.defers = [] ∧ Sym C.w0 C.S H w') F L := fun a w ok =>
  ⟨he.symm, by rw [ok.fr.defers, hD], ok.sym.sub hL⟩
section
variable {C : Cx} {F : Fr} {L : List HL} {o : Oper}
/-- An interface value that is compared with nil. -/
theorem Still.neqNilI {xt yt : TypeId} {x : Operand} {t : TypeId} {v : Value} (ho : o.op = .binOp .neq xt x (.const .nilIface) yt) (hx : F.ev x = some (.iface t v)) (ht : C.P.underlying xt = some (.interface (C.P.methodsAt xt))) : Still C o F L (.bool true) :=
  ⟨fun c h => (by rw [ho] at h; cases h), fun a w ok => by
    have e : a.eval (.const .nilIface) = .nilIface := rfl
    simp only [execOp, ho, ok.fr.ev hx, e]
    simp [eqGuard_at_iface, run_neq_held_nil _ _ _ _ ht]⟩
theorem Still.neqNilN {xt yt : TypeId} {x : Operand} (ho : o.op = .binOp .neq xt x (.const .nilIface) yt) (hx : F.ev x = some .nilIface) (ht : C.P.underlying xt = some (.interface (C.P.methodsAt xt))) : Still C o F L (.bool false) :=
  ⟨fun c h => (by rw [ho] at h; cases h), fun a w ok => by
    have e : a.eval (.const .nilIface) = .nilIface := rfl
    simp only [execOp, ho, ok.fr.ev hx, e]
    simp [eqGuard_nil_constR, run_neq_nil_nil _ _ ht]⟩
theorem Still.any {v : Value} (hd : ∀ c, o.op ≠ .defer c) (h : ∀ a w, Ok C F L a w → (execOp a.eval o).run C.P w = .ok (.value v) w) : Still C o F L v := ⟨hd, h⟩
end
end Go.V
/- The proof layer, part s: what is handed to a call; type assertions. -/
namespace Go.V
open Go
theorem Sym.hand {w0 w : World} {S : Nat → Prop} {L : List HL} (hs : Sym w0 S L w) : Sym w (fun c => ∃ k ∈ L, k.supp c) L w :=
  ⟨Old.refl _ w, hs.holds, fun h hh b hb => ⟨(hs.supp h hh b hb).1, .inr ⟨h, hh, hb⟩⟩, hs.apart⟩
theorem Sym.left {w0 w : World} {S : Nat → Prop} {L R : List HL} (hs : Sym w0 S (L ++ R) w) : Sym w0 S L w := hs.sub ⟨L, List.Perm.refl _, List.sublist_append_left L R⟩
theorem Still.typeAssertOk {C : Cx} {F : Fr} {L : List HL} {o : Oper} {x : Operand} {xt t : TypeId} {v : Value} {fs : Array Field} (ho : o.op = .typeAssert x xt t true) (hx : F.ev x = some (.iface t v)) (ht : C.P.underlying t = some (.struct fs)) : Still C o F L (.tuple #[v, .bool true]) :=
  ⟨fun c h => (by rw [ho] at h; cases h), fun a w ok => by
    simp only [execOp, ho, ok.fr.ev hx]
    simp [Instr.typeAssert, run_underlying ht]⟩
end Go.V
/- Numbers and crossings of a text, by the program. -/
namespace Go.Proofs
open Go Go.V
set_option maxRecDepth 20000
def noTextV : Value := .iface 66 (.agg #[])
theorem in_iface20 : Tryz.prog.underlying 20 = some (.interface (Tryz.prog.methodsAt 20)) := Tryz.underlying20.trans (by kernel_rfl)
theorem in_iface120 : Tryz.prog.underlying 120 = some (.interface (Tryz.prog.methodsAt 120)) := Tryz.underlying120.trans (by kernel_rfl)

theorem dg_number (s : ByteArray) (v : Int) (w : World) (he : Env w) (hv : Num s v) : Gives Tryz.prog 40 #[.string s] w Nil (fun _ : Unit => True) (fun _ => iv v) (fun _ => []) := by
  have hz := hv.size
  refine fn_of_run (S := Nil) (args := [.string s]) (n := 29) (L := []) Tryz.func40 rfl Tryz.ntmps40 (Nat.le_of_ble_eq_true rfl) (Sym.nil _ _) ?_
  change RunC _ _ _ [(0, _)] _
  refine RunC.seq ?_
  refine RunC.region ?_
  refine RunL.still rfl rfl rfl (Still.assign rfl rfl) ?_
  refine RunL.nil ?_
  refine Ends.then ?_
  refine RunC.seq ?_
  refine RunC.region ?_
  refine RunL.still rfl rfl rfl (Still.move rfl rfl) ?_
  refine RunL.grows rfl rfl rfl (Grows.call (vs := #[_]) rfl rfl Tryz.call76 (fun w hs => z_Atoi s v w (by omega) hv.atoi)) (fun _ _ => ?_)
  refine RunL.still rfl rfl rfl (Still.move rfl rfl) ?_
  refine RunL.still rfl rfl rfl (Still.extractN rfl rfl rfl) ?_
  refine RunL.still rfl rfl rfl (Still.extractN rfl rfl rfl) ?_
  refine RunL.still rfl rfl rfl (Still.assign rfl rfl) ?_
  refine RunL.still rfl rfl rfl (Still.assign rfl rfl) ?_
  refine RunL.nil ?_
  refine Ends.then ?_
  refine RunC.seq ?_
  refine RunC.seq ?_
  refine RunC.region ?_
  refine RunL.still rfl rfl rfl (Still.move rfl rfl) ?_
  refine RunL.still rfl rfl rfl (Still.neqNilN rfl rfl in_iface120) ?_
  refine RunL.still rfl rfl rfl (Still.move rfl rfl) ?_
  refine RunL.still rfl rfl rfl (Still.move rfl rfl) ?_
  refine RunL.grows rfl rfl rfl (Grows.call (vs := #[_]) rfl rfl Tryz.call32 (fun w hs => z_ItoaP v w (he.sym hs) hv.1 (by have := hv.2.1; omega))) (fun _ _ => ?_)
  refine RunL.still rfl rfl rfl (Still.move rfl rfl) ?_
  refine RunL.still rfl rfl rfl (Still.neqStrD rfl rfl rfl) ?_
  refine RunL.still rfl rfl rfl (Still.pickF rfl rfl rfl) ?_
  refine RunL.still rfl rfl rfl (Still.move rfl rfl) ?_
  refine RunL.split (t := 18) rfl (fun h18 => ?_) (fun h18 => ?_)
  · have h18 := of_decide_eq_true h18
    exact absurd hv.2.2.symm h18
  · have h18 := of_decide_eq_false h18
    refine RunL.still rfl rfl rfl (Still.move rfl rfl) ?_
    refine RunL.still rfl rfl rfl (Still.lss rfl rfl rfl) ?_
    refine RunL.still rfl rfl rfl (Still.pickF rfl rfl rfl) ?_
    refine RunL.still rfl rfl rfl (Still.move rfl rfl) ?_
    refine RunL.split (t := 22) rfl (fun h22 => ?_) (fun h22 => ?_)
    · have h22 := of_decide_eq_true h22
      have h1 := hv.1; omega
    · have h22 := of_decide_eq_false h22
      refine RunL.still rfl rfl rfl (Still.move rfl rfl) ?_
      refine RunL.still rfl rfl rfl (Still.gtr rfl rfl rfl) ?_
      refine RunL.still rfl rfl rfl (Still.pickF rfl rfl rfl) ?_
      refine RunL.nil ?_
      refine Ends.then ?_
      refine RunC.cond rfl (fun h25 => ?_) (fun h25 => ?_)
      · have h25 := of_decide_eq_true h25
        have h1 := hv.2.1; omega
      · have h25 := of_decide_eq_false h25
        refine RunC.skip ?_
        refine Ends.then ?_
        refine RunC.seq ?_
        refine RunC.region ?_
        refine RunL.still rfl rfl rfl (Still.move rfl rfl) ?_
        refine RunL.still rfl rfl rfl (Still.assign rfl rfl) ?_
        refine RunL.nil ?_
        refine Ends.then ?_
        refine RunC.ret ?_
        refine Ends.leave (.inl rfl) (fun _ _ ok => results1 Tryz.results40 (Holds.tmp rfl) ok) (fun w1 hs => ?_)
        exact Ret.intro () trivial rfl (HSub.nil _) hs

theorem dg_number_b1 (s : ByteArray) (w : World) (he : Env w) (hz : s.size ≤ 200000) (hv : ∀ v, Lib.atoiAll s.data.toList ≠ .ok v) : Dies Tryz.prog 40 #[.string s] w noTextV := by
  refine fn_of_run (S := Nil) (args := [.string s]) (n := 29) (L := []) Tryz.func40 rfl Tryz.ntmps40 (Nat.le_of_ble_eq_true rfl) (Sym.nil _ _) ?_
  change RunC _ _ _ [(0, _)] _
  refine RunC.seq ?_
  refine RunC.region ?_
  refine RunL.still rfl rfl rfl (Still.assign rfl rfl) ?_
  refine RunL.nil ?_
  refine Ends.then ?_
  refine RunC.seq ?_
  refine RunC.region ?_
  refine RunL.still rfl rfl rfl (Still.move rfl rfl) ?_
  refine RunL.grows rfl rfl rfl (Grows.call (vs := #[_]) rfl rfl Tryz.call76 (fun w hs => z_AtoiBad s w (he.sym hs) (by omega) hv)) (fun _ _ => ?_)
  refine RunL.still rfl rfl rfl (Still.move rfl rfl) ?_
  refine RunL.still rfl rfl rfl (Still.extractN rfl rfl rfl) ?_
  refine RunL.still rfl rfl rfl (Still.extractN rfl rfl rfl) ?_
  refine RunL.still rfl rfl rfl (Still.assign rfl rfl) ?_
  refine RunL.still rfl rfl rfl (Still.assign rfl rfl) ?_
  refine RunL.nil ?_
  refine Ends.then ?_
  refine RunC.seq ?_
  refine RunC.seq ?_
  refine RunC.region ?_
  refine RunL.still rfl rfl rfl (Still.move rfl rfl) ?_
  refine RunL.still rfl rfl rfl (Still.neqNilI rfl rfl in_iface120) ?_
  refine RunL.still rfl rfl rfl (Still.move rfl rfl) ?_
  refine RunL.off rfl rfl rfl ?_
  refine RunL.off rfl rfl rfl ?_
  refine RunL.off rfl rfl rfl ?_
  refine RunL.off rfl rfl rfl ?_
  refine RunL.still rfl rfl rfl (Still.pickT rfl rfl rfl) ?_
  refine RunL.still rfl rfl rfl (Still.move rfl rfl) ?_
  refine RunL.off rfl rfl rfl ?_
  refine RunL.off rfl rfl rfl ?_
  refine RunL.still rfl rfl rfl (Still.pickT rfl rfl rfl) ?_
  refine RunL.still rfl rfl rfl (Still.move rfl rfl) ?_
  refine RunL.off rfl rfl rfl ?_
  refine RunL.off rfl rfl rfl ?_
  refine RunL.still rfl rfl rfl (Still.pickT rfl rfl rfl) ?_
  refine RunL.nil ?_
  refine Ends.then ?_
  refine RunC.cond_true rfl ?_
  refine RunC.region ?_
  refine RunL.still rfl rfl rfl (Still.build_0 (.agg #[]) rfl (fun _ => by kernel_rfl)) ?_
  refine RunL.still rfl rfl rfl (Still.makeInterface rfl rfl (fun _ => by kernel_rfl)) ?_
  refine RunL.panic rfl rfl rfl ?_
  refine Ends.then_panic ?_
  exact Ends.die rfl (fun w hs => ⟨rfl, hs.sub (HSub.nil _)⟩)

theorem dg_number_b2 (s : ByteArray) (v : Int) (w : World) (he : Env w) (hz : s.size ≤ 200000) (ha : Lib.atoiAll s.data.toList = .ok v) (hv : ∀ v, ¬ Num s v) : Dies Tryz.prog 40 #[.string s] w noTextV := by
  have hb := atoi_in64 ha
  refine fn_of_run (S := Nil) (args := [.string s]) (n := 29) (L := []) Tryz.func40 rfl Tryz.ntmps40 (Nat.le_of_ble_eq_true rfl) (Sym.nil _ _) ?_
  change RunC _ _ _ [(0, _)] _
  refine RunC.seq ?_
  refine RunC.region ?_
  refine RunL.still rfl rfl rfl (Still.assign rfl rfl) ?_
  refine RunL.nil ?_
  refine Ends.then ?_
  refine RunC.seq ?_
  refine RunC.region ?_
  refine RunL.still rfl rfl rfl (Still.move rfl rfl) ?_
  refine RunL.grows rfl rfl rfl (Grows.call (vs := #[_]) rfl rfl Tryz.call76 (fun w hs => z_Atoi s v w (by omega) ha)) (fun _ _ => ?_)
  refine RunL.still rfl rfl rfl (Still.move rfl rfl) ?_
  refine RunL.still rfl rfl rfl (Still.extractN rfl rfl rfl) ?_
  refine RunL.still rfl rfl rfl (Still.extractN rfl rfl rfl) ?_
  refine RunL.still rfl rfl rfl (Still.assign rfl rfl) ?_
  refine RunL.still rfl rfl rfl (Still.assign rfl rfl) ?_
  refine RunL.nil ?_
  refine Ends.then ?_
  refine RunC.seq ?_
  refine RunC.seq ?_
  refine RunC.region ?_
  refine RunL.still rfl rfl rfl (Still.move rfl rfl) ?_
  refine RunL.still rfl rfl rfl (Still.neqNilN rfl rfl in_iface120) ?_
  refine RunL.still rfl rfl rfl (Still.move rfl rfl) ?_
  refine RunL.still rfl rfl rfl (Still.move rfl rfl) ?_
  refine RunL.grows rfl rfl rfl (Grows.call (vs := #[_]) rfl rfl Tryz.call32 (fun w hs => z_Itoa v w (he.sym hs) hb)) (fun _ _ => ?_)
  refine RunL.still rfl rfl rfl (Still.move rfl rfl) ?_
  refine RunL.still rfl rfl rfl (Still.neqStrD rfl rfl rfl) ?_
  refine RunL.still rfl rfl rfl (Still.pickF rfl rfl rfl) ?_
  refine RunL.still rfl rfl rfl (Still.move rfl rfl) ?_
  refine RunL.split (t := 18) rfl (fun h18 => ?_) (fun h18 => ?_)
  · have h18 := of_decide_eq_true h18
    refine RunL.off rfl rfl rfl ?_
    refine RunL.off rfl rfl rfl ?_
    refine RunL.still rfl rfl rfl (Still.pickT rfl rfl rfl) ?_
    refine RunL.still rfl rfl rfl (Still.move rfl rfl) ?_
    refine RunL.off rfl rfl rfl ?_
    refine RunL.off rfl rfl rfl ?_
    refine RunL.still rfl rfl rfl (Still.pickT rfl rfl rfl) ?_
    refine RunL.nil ?_
    refine Ends.then ?_
    refine RunC.cond_true rfl ?_
    refine RunC.region ?_
    refine RunL.still rfl rfl rfl (Still.build_0 (.agg #[]) rfl (fun _ => by kernel_rfl)) ?_
    refine RunL.still rfl rfl rfl (Still.makeInterface rfl rfl (fun _ => by kernel_rfl)) ?_
    refine RunL.panic rfl rfl rfl ?_
    refine Ends.then_panic ?_
    exact Ends.die rfl (fun w hs => ⟨rfl, hs.sub (HSub.nil _)⟩)
  · have h18 := of_decide_eq_false h18
    refine RunL.still rfl rfl rfl (Still.move rfl rfl) ?_
    refine RunL.still rfl rfl rfl (Still.lss rfl rfl rfl) ?_
    refine RunL.still rfl rfl rfl (Still.pickF rfl rfl rfl) ?_
    refine RunL.still rfl rfl rfl (Still.move rfl rfl) ?_
    refine RunL.split (t := 22) rfl (fun h22 => ?_) (fun h22 => ?_)
    · have h22 := of_decide_eq_true h22
      refine RunL.off rfl rfl rfl ?_
      refine RunL.off rfl rfl rfl ?_
      refine RunL.still rfl rfl rfl (Still.pickT rfl rfl rfl) ?_
      refine RunL.nil ?_
      refine Ends.then ?_
      refine RunC.cond_true rfl ?_
      refine RunC.region ?_
      refine RunL.still rfl rfl rfl (Still.build_0 (.agg #[]) rfl (fun _ => by kernel_rfl)) ?_
      refine RunL.still rfl rfl rfl (Still.makeInterface rfl rfl (fun _ => by kernel_rfl)) ?_
      refine RunL.panic rfl rfl rfl ?_
      refine Ends.then_panic ?_
      exact Ends.die rfl (fun w hs => ⟨rfl, hs.sub (HSub.nil _)⟩)
    · have h22 := of_decide_eq_false h22
      refine RunL.still rfl rfl rfl (Still.move rfl rfl) ?_
      refine RunL.still rfl rfl rfl (Still.gtr rfl rfl rfl) ?_
      refine RunL.still rfl rfl rfl (Still.pickF rfl rfl rfl) ?_
      refine RunL.nil ?_
      refine Ends.then ?_
      refine RunC.cond rfl (fun h25 => ?_) (fun h25 => ?_)
      · have h25 := of_decide_eq_true h25
        refine RunC.region ?_
        refine RunL.still rfl rfl rfl (Still.build_0 (.agg #[]) rfl (fun _ => by kernel_rfl)) ?_
        refine RunL.still rfl rfl rfl (Still.makeInterface rfl rfl (fun _ => by kernel_rfl)) ?_
        refine RunL.panic rfl rfl rfl ?_
        refine Ends.then_panic ?_
        exact Ends.die rfl (fun w hs => ⟨rfl, hs.sub (HSub.nil _)⟩)
      · have h25 := of_decide_eq_false h25
        exact absurd ⟨by omega, by omega, by rw [← itoaS_pos (by omega)]; exact (Decidable.not_not.1 h18).symm⟩ (hv v)

theorem dg_number_bad (s : ByteArray) (w : World) (he : Env w) (hz : s.size ≤ 200000) (hv : ∀ v, ¬ Num s v) : Dies Tryz.prog 40 #[.string s] w noTextV := by
  cases ha : Lib.atoiAll s.data.toList
  · rename_i v; exact dg_number_b2 s v w he hz ha hv
  · exact dg_number_b1 s w he hz (fun v h => by rw [ha] at h; cases h)
  · exact dg_number_b1 s w he hz (fun v h => by rw [ha] at h; cases h)

theorem z_SplitL (s sep : ByteArray) (l : List ByteArray) (n : Nat) (w : World) (he : Env w) (hs : s.size < 4294967281) (h1 : 1 ≤ sep.size) (hl : piecesB s sep = l) (hn : l.length = n) : Gives Tryz.prog 38 #[.string s, .string sep] w Nil (fun _ : Nat => True) (fun b => .slice (some ⟨b, 0, none⟩) n n) (fun b => [HL.obj b (.cells (l.map Value.string).toArray 9 (0, 0))]) := by
  subst hl hn
  exact z_Split s sep w he hs h1

theorem dg_crossing (s : ByteArray) (w : World) (he : Env w) (hz : s.size ≤ 200000) : Calls Tryz.prog 39 #[.string s] w (fun e w' => (∃ x, Cross s x ∧ e = .returned (crV x) ∧ Sym w Nil [] w') ∨ ((∀ x, ¬ Cross s x) ∧ e = .panicked [{ v := noTextV, recovered := false }] ∧ Sym w Nil [] w')) := by
  refine fn_of_run (S := Nil) (args := [.string s]) (n := 45) (L := []) Tryz.func39 rfl Tryz.ntmps39 (Nat.le_of_ble_eq_true rfl) (Sym.nil _ _) ?_
  change RunC _ _ _ [(0, _)] _
  refine RunC.seq ?_
  refine RunC.region ?_
  refine RunL.grows rfl rfl rfl (Grows.alloc rfl Tryz.zeroValue62) (fun b2 _ => ?_)
  refine RunL.nil ?_
  refine Ends.then ?_
  refine RunC.seq ?_
  refine RunC.region ?_
  refine RunL.still rfl rfl rfl (Still.move rfl rfl) ?_
  refine RunL.grows rfl rfl rfl (Grows.call (vs := #[_, _]) rfl rfl Tryz.call38 (fun w hs => z_Split s spS w (he.sym hs) (by omega) (by decide))) (fun b7 _ => ?_)
  refine RunL.still rfl rfl rfl (Still.assign rfl rfl) ?_
  refine RunL.nil ?_
  refine Ends.then ?_
  refine RunC.seq ?_
  refine RunC.seq ?_
  refine RunC.region ?_
  refine RunL.still rfl rfl rfl (Still.move rfl rfl) ?_
  refine RunL.still rfl rfl rfl (Still.lenSlice rfl rfl Tryz.underlying59) ?_
  refine RunL.still rfl rfl rfl (Still.neq rfl rfl rfl) ?_
  refine RunL.still rfl rfl rfl (Still.move rfl rfl) ?_
  refine RunL.split (t := 11) rfl (fun h11 => ?_) (fun h11 => ?_)
  · have h11 := of_decide_eq_true h11
    have hno : ∀ x, ¬ Cross s x := fun x hx => by have := cross_len hx; omega
    refine RunL.off rfl rfl rfl ?_
    refine RunL.off rfl rfl rfl ?_
    refine RunL.off rfl rfl rfl ?_
    refine RunL.off rfl rfl rfl ?_
    refine RunL.off rfl rfl rfl ?_
    refine RunL.off rfl rfl rfl ?_
    refine RunL.off rfl rfl rfl ?_
    refine RunL.off rfl rfl rfl ?_
    refine RunL.off rfl rfl rfl ?_
    refine RunL.off rfl rfl rfl ?_
    refine RunL.still rfl rfl rfl (Still.pickT rfl rfl rfl) ?_
    refine RunL.nil ?_
    refine Ends.then ?_
    refine RunC.cond_true rfl ?_
    refine RunC.region ?_
    refine RunL.still rfl rfl rfl (Still.build_0 (.agg #[]) rfl (fun _ => by kernel_rfl)) ?_
    refine RunL.still rfl rfl rfl (Still.makeInterface rfl rfl (fun _ => by kernel_rfl)) ?_
    refine RunL.panic rfl rfl rfl ?_
    refine Ends.then_panic ?_
    exact Ends.die rfl (fun w hs => .inr ⟨hno, rfl, hs.sub (HSub.nil _)⟩)
  · have h11 := of_decide_eq_false h11
    have hlen : (piecesB s spS).length = 5 := by omega
    obtain ⟨p0, p1, p2, p3, p4, hp⟩ := five hlen
    have hps := pieces_size hp
    refine RunL.conv (fun _ hs => hs.re 0 rfl (show _ = HL.obj b7 (.cells #[.string p0, .string p1, .string p2, .string p3, .string p4] 9 (0, 0)) from by rw [hp]; rfl)) ?_
    refine RunL.still rfl rfl rfl (Still.move rfl rfl) ?_
    refine RunL.still rfl rfl rfl (Still.indexSliceEL 0 rfl rfl rfl Tryz.underlying59 Tryz.sizeOf9 (rfl) (by omega)) ?_
    refine RunL.still rfl rfl rfl (Still.load rfl rfl Tryz.isAgg9 (fun _ hs => cell_nth (hs.at (i := 0) rfl) rfl)) ?_
    refine RunL.still rfl rfl rfl (Still.neqStrD rfl rfl rfl) ?_
    refine RunL.still rfl rfl rfl (Still.move rfl rfl) ?_
    refine RunL.split (t := 16) rfl (fun h16 => ?_) (fun h16 => ?_)
    · have h16 := of_decide_eq_true h16
      refine RunL.still rfl rfl rfl (Still.move rfl rfl) ?_
      refine RunL.still rfl rfl rfl (Still.indexSliceEL 0 rfl rfl rfl Tryz.underlying59 Tryz.sizeOf9 (rfl) (by omega)) ?_
      refine RunL.still rfl rfl rfl (Still.load rfl rfl Tryz.isAgg9 (fun _ hs => cell_nth (hs.at (i := 0) rfl) rfl)) ?_
      refine RunL.still rfl rfl rfl (Still.neqStrD rfl rfl rfl) ?_
      refine RunL.still rfl rfl rfl (Still.pickT rfl rfl rfl) ?_
      refine RunL.still rfl rfl rfl (Still.pickF rfl rfl rfl) ?_
      refine RunL.nil ?_
      refine Ends.then ?_
      refine RunC.cond rfl (fun h22 => ?_) (fun h22 => ?_)
      · have h22 := of_decide_eq_true h22
        have hno := cross_sgn hp h16 h22
        refine RunC.region ?_
        refine RunL.still rfl rfl rfl (Still.build_0 (.agg #[]) rfl (fun _ => by kernel_rfl)) ?_
        refine RunL.still rfl rfl rfl (Still.makeInterface rfl rfl (fun _ => by kernel_rfl)) ?_
        refine RunL.panic rfl rfl rfl ?_
        refine Ends.then_panic ?_
        exact Ends.die rfl (fun w hs => .inr ⟨hno, rfl, hs.sub (HSub.nil _)⟩)
      · have h22 := of_decide_eq_false h22
        refine RunC.skip ?_
        refine Ends.then ?_
        refine RunC.seq ?_
        refine RunC.region ?_
        refine RunL.still rfl rfl rfl (Still.build_1 (fun x0_0 => .agg #[.int .i64 0, .int .i64 0, .int .i64 0, .int .i64 0, x0_0]) rfl rfl (fun _ => by kernel_rfl)) ?_
        refine RunL.grows rfl rfl rfl (Grows.alloc rfl Tryz.zeroValue62) (fun b4 _ => ?_)
        refine RunL.does0 rfl rfl (Does.store rfl rfl rfl (i := 0) rfl Tryz.sizeOf62 rfl (rfl) rfl) (fun _ _ => ?_)
        refine RunL.nil ?_
        refine Ends.then ?_
        refine RunC.seq ?_
        refine RunC.seq ?_
        refine RunC.region ?_
        refine RunL.still rfl rfl rfl (Still.move rfl rfl) ?_
        refine RunL.still rfl rfl rfl (Still.indexSliceEL 0 rfl rfl rfl Tryz.underlying59 Tryz.sizeOf9 (rfl) (by omega)) ?_
        refine RunL.still rfl rfl rfl (Still.load rfl rfl Tryz.isAgg9 (fun _ hs => cell_nth (hs.at (i := 1) rfl) rfl)) ?_
        refine RunL.still rfl rfl rfl (Still.eqlStrD rfl rfl rfl) ?_
        refine RunL.nil ?_
        refine Ends.then ?_
        refine RunC.cond rfl (fun h29 => ?_) (fun h29 => ?_)
        · have h29 := of_decide_eq_true h29
          obtain ⟨sg, hsg, h0⟩ : ∃ sg : Int, sg = -1 ∧ (sg = 1 ∧ p0 = ⟨#[43]⟩ ∨ sg = -1 ∧ p0 = ⟨#[45]⟩) := ⟨_, rfl, .inr ⟨rfl, h29⟩⟩
          refine RunC.region ?_
          refine RunL.still rfl rfl rfl (Still.fieldAddrL (off := 0) (off' := 4) rfl rfl Tryz.underlying62 rfl Tryz.sizeOf3 rfl) ?_
          refine RunL.does0 rfl rfl (Does.store1 rfl rfl rfl (i := 0) rfl Tryz.sizeOf3 (rfl) (rfl)) (fun _ _ => ?_)
          refine RunL.nil ?_
          refine Ends.then ?_
          refine RunC.seq ?_
          refine RunC.seq ?_
          refine RunC.region ?_
          refine RunL.still rfl rfl rfl (Still.move rfl rfl) ?_
          refine RunL.nil ?_
          refine Ends.then ?_
          refine RunC.block ?_
          refine RunC.loop2 (γ := Nat × List Int) (keep := [(2, _), (3, _), (4, _)]) (hkeep := [_, _]) (fun (k, l) => k ≤ 4 ∧ l.length = k ∧ NumsTo p1 p2 p3 p4 l) (fun (k, l) => 4 - k) (fun (k, l) => [(31, iv k)]) (fun (k, l) => [HL.obj b4 (.cells #[iv (cr4 l sg).a0, iv (cr4 l sg).a1, iv (cr4 l sg).a2, iv (cr4 l sg).a3, iv (cr4 l sg).s] 62 (0, 0))]) (0, []) ⟨by omega, rfl, fun j hj => absurd hj (Nat.not_lt_zero _)⟩ (Fr.Sub.cons rfl (Fr.Sub.nil _)) (Fr.Sub.cons rfl (Fr.Sub.cons rfl (Fr.Sub.cons rfl (Fr.Sub.nil _)))) (HSub.pick 0 (by rw [hsg]; rfl) (HSub.pick 0 rfl (HSub.pick 0 rfl (HSub.nil _)))) ?_
          rintro ⟨k, l⟩ ⟨hk, hll, hnt⟩
          have hk : k ≤ 4 := hk
          have hll : l.length = k := hll
          refine RunC.seq ?_
          refine RunC.region ?_
          refine RunL.still rfl rfl rfl (Still.lss rfl rfl rfl) ?_
          refine RunL.nil ?_
          refine Ends.then ?_
          refine RunC.seq ?_
          refine RunC.cond rfl (fun h32 => ?_) (fun h32 => ?_)
          · have h32 := of_decide_eq_true h32
            have hk4 : k < 4 := by omega
            refine RunC.skip ?_
            refine Ends.then ?_
            refine RunC.seq ?_
            refine RunC.block ?_
            refine RunC.seq ?_
            refine RunC.region ?_
            refine RunL.still rfl rfl rfl (Still.move rfl rfl) ?_
            refine RunL.still rfl rfl rfl (Still.assign rfl rfl) ?_
            refine RunL.nil ?_
            refine Ends.then ?_
            refine RunC.region ?_
            refine RunL.still rfl rfl rfl (Still.move rfl rfl) ?_
            refine RunL.still rfl rfl rfl (Still.move rfl rfl) ?_
            refine RunL.still rfl rfl rfl (Still.move rfl rfl) ?_
            refine RunL.still rfl rfl rfl (Still.add rfl rfl rfl (fits64 (by omega) (by omega))) ?_
            refine RunL.still rfl rfl rfl (Still.indexSliceEL (k + 1) rfl rfl rfl Tryz.underlying59 Tryz.sizeOf9 (by omega) (by omega)) ?_
            refine RunL.still rfl rfl rfl (Still.load (v := .string (pieceAt p1 p2 p3 p4 k)) rfl rfl Tryz.isAgg9 (fun _ hs => cell_nth (hs.at (i := 1) rfl) (nth_piece hk4))) ?_
            by_cases hn : ∃ v, Num (pieceAt p1 p2 p3 p4 k) v
            · obtain ⟨v, hv⟩ := hn
              refine RunL.grows rfl rfl rfl (Grows.call (vs := #[_]) rfl rfl Tryz.call40 (fun w hs => dg_number _ v w (he.sym hs) hv)) (fun _ _ => ?_)
              refine RunL.still rfl rfl rfl (Still.fieldAddrL (off := 0) (off' := 0) rfl rfl Tryz.underlying62 rfl Tryz.sizeOf60 rfl) ?_
              refine RunL.still rfl rfl rfl (Still.indexArrNL rfl rfl rfl Tryz.underlying60 Tryz.sizeOf3 (by omega)) ?_
              refine RunL.does0 rfl rfl (Does.store1 rfl rfl rfl (i := 0) rfl Tryz.sizeOf3 rfl (Nat.ble_eq_true_of_le (show 0 + k * 1 + 1 ≤ 5 by omega))) (fun _ _ => ?_)
              refine RunL.conv (fun _ hs => hs.re 0 rfl (show _ = HL.obj b4 (.cells #[iv (cr4 (l ++ [v]) sg).a0, iv (cr4 (l ++ [v]) sg).a1, iv (cr4 (l ++ [v]) sg).a2, iv (cr4 (l ++ [v]) sg).a3, iv (cr4 (l ++ [v]) sg).s] 62 (0, 0)) from congrArg (fun z => HL.obj b4 (.cells z 62 (0, 0))) (cr4_set hll hk4 sg _))) ?_
              refine RunL.nil ?_
              refine Ends.block ?_
              refine Ends.then ?_
              refine RunC.region ?_
              refine RunL.still rfl rfl rfl (Still.add rfl rfl rfl (fits64 (by omega) (by omega))) ?_
              refine RunL.still rfl rfl rfl (Still.move rfl rfl) ?_
              refine RunL.nil ?_
              refine Ends.again (k + 1, l ++ [v]) ?_ ?_ (Fr.Sub.app ?_ ?_) ?_
              · exact ⟨by omega, by rw [List.length_append, hll]; rfl, hnt.snoc (by rw [hll]; exact hv)⟩
              · show 4 - (k + 1) < 4 - k; omega
              · exact Fr.Sub.cons rfl (Fr.Sub.nil _)
              · exact Fr.Sub.cons rfl (Fr.Sub.cons rfl (Fr.Sub.cons rfl (Fr.Sub.nil _)))
              · exact HSub.pick 0 rfl (HSub.pick 0 rfl (HSub.pick 0 rfl (HSub.nil _)))
            · have hno := cross_not hp hk4 (fun v hv => hn ⟨v, hv⟩)
              refine RunL.dies (vs := #[_]) (u := noTextV) rfl rfl rfl Tryz.call40 (fun w hs => dg_number_bad _ w (he.sym hs) (piece_size hps hz k) (fun v hv => hn ⟨v, hv⟩)) ?_
              refine Ends.block_panic ?_
              refine Ends.then_panic ?_
              refine Ends.then_panic ?_
              refine Ends.block_panic ?_
              refine Ends.then_panic ?_
              exact Ends.die rfl (fun w hs => .inr ⟨hno, rfl, hs.sub (HSub.nil _)⟩)
          · have h32 := of_decide_eq_false h32
            obtain rfl : k = 4 := by omega
            have hcr : Cross s (cr4 l sg) := cross_of hp h0 (hnt 0 (by omega)) (hnt 1 (by omega)) (hnt 2 (by omega)) (hnt 3 (by omega))
            refine RunC.exit ?_
            refine Ends.then_exit ?_
            refine Ends.then_exit ?_
            refine Ends.block_exit ?_
            refine Ends.then ?_
            refine RunC.seq ?_
            refine RunC.region ?_
            refine RunL.still rfl rfl rfl (Still.loads rfl rfl Tryz.isAgg62 Tryz.sizeOf62 (vs := [_, _, _, _, _]) rfl (fun _ hs => cells_nth (hs.at (i := 0) rfl) ⟨rfl, ⟨rfl, ⟨rfl, ⟨rfl, ⟨rfl, trivial⟩⟩⟩⟩⟩)) ?_
            refine RunL.does0 rfl rfl (Does.store rfl rfl rfl (i := 2) rfl Tryz.sizeOf62 rfl (rfl) rfl) (fun _ _ => ?_)
            refine RunL.nil ?_
            refine Ends.then ?_
            refine RunC.ret ?_
            refine Ends.leave (.inl rfl) (fun _ _ ok => results1 Tryz.results39 (Holds.cell rfl (fun _ hs => load_cells (vs := [_, _, _, _, _]) Tryz.isAgg62 Tryz.sizeOf62 rfl (cells_nth (hs.at (i := 2) rfl) ⟨rfl, ⟨rfl, ⟨rfl, ⟨rfl, ⟨rfl, trivial⟩⟩⟩⟩⟩))) ok) (fun w1 hs => ?_)
            exact .inl ⟨_, hcr, rfl, hs.sub (HSub.nil _)⟩
        · have h29 := of_decide_eq_false h29
          have hp43 : p0 = ⟨#[43]⟩ := by first | exact Decidable.not_not.1 h16 | exact absurd (Decidable.not_not.1 h22) h29
          obtain ⟨sg, hsg, h0⟩ : ∃ sg : Int, sg = 1 ∧ (sg = 1 ∧ p0 = ⟨#[43]⟩ ∨ sg = -1 ∧ p0 = ⟨#[45]⟩) := ⟨_, rfl, .inl ⟨rfl, hp43⟩⟩
          refine RunC.skip ?_
          refine Ends.then ?_
          refine RunC.seq ?_
          refine RunC.seq ?_
          refine RunC.region ?_
          refine RunL.still rfl rfl rfl (Still.move rfl rfl) ?_
          refine RunL.nil ?_
          refine Ends.then ?_
          refine RunC.block ?_
          refine RunC.loop2 (γ := Nat × List Int) (keep := [(2, _), (3, _), (4, _)]) (hkeep := [_, _]) (fun (k, l) => k ≤ 4 ∧ l.length = k ∧ NumsTo p1 p2 p3 p4 l) (fun (k, l) => 4 - k) (fun (k, l) => [(31, iv k)]) (fun (k, l) => [HL.obj b4 (.cells #[iv (cr4 l sg).a0, iv (cr4 l sg).a1, iv (cr4 l sg).a2, iv (cr4 l sg).a3, iv (cr4 l sg).s] 62 (0, 0))]) (0, []) ⟨by omega, rfl, fun j hj => absurd hj (Nat.not_lt_zero _)⟩ (Fr.Sub.cons rfl (Fr.Sub.nil _)) (Fr.Sub.cons rfl (Fr.Sub.cons rfl (Fr.Sub.cons rfl (Fr.Sub.nil _)))) (HSub.pick 0 (by rw [hsg]; rfl) (HSub.pick 0 rfl (HSub.pick 0 rfl (HSub.nil _)))) ?_
          rintro ⟨k, l⟩ ⟨hk, hll, hnt⟩
          have hk : k ≤ 4 := hk
          have hll : l.length = k := hll
          refine RunC.seq ?_
          refine RunC.region ?_
          refine RunL.still rfl rfl rfl (Still.lss rfl rfl rfl) ?_
          refine RunL.nil ?_
          refine Ends.then ?_
          refine RunC.seq ?_
          refine RunC.cond rfl (fun h32 => ?_) (fun h32 => ?_)
          · have h32 := of_decide_eq_true h32
            have hk4 : k < 4 := by omega
            refine RunC.skip ?_
            refine Ends.then ?_
            refine RunC.seq ?_
            refine RunC.block ?_
            refine RunC.seq ?_
            refine RunC.region ?_
            refine RunL.still rfl rfl rfl (Still.move rfl rfl) ?_
            refine RunL.still rfl rfl rfl (Still.assign rfl rfl) ?_
            refine RunL.nil ?_
            refine Ends.then ?_
            refine RunC.region ?_
            refine RunL.still rfl rfl rfl (Still.move rfl rfl) ?_
            refine RunL.still rfl rfl rfl (Still.move rfl rfl) ?_
            refine RunL.still rfl rfl rfl (Still.move rfl rfl) ?_
            refine RunL.still rfl rfl rfl (Still.add rfl rfl rfl (fits64 (by omega) (by omega))) ?_
            refine RunL.still rfl rfl rfl (Still.indexSliceEL (k + 1) rfl rfl rfl Tryz.underlying59 Tryz.sizeOf9 (by omega) (by omega)) ?_
            refine RunL.still rfl rfl rfl (Still.load (v := .string (pieceAt p1 p2 p3 p4 k)) rfl rfl Tryz.isAgg9 (fun _ hs => cell_nth (hs.at (i := 1) rfl) (nth_piece hk4))) ?_
            by_cases hn : ∃ v, Num (pieceAt p1 p2 p3 p4 k) v
            · obtain ⟨v, hv⟩ := hn
              refine RunL.grows rfl rfl rfl (Grows.call (vs := #[_]) rfl rfl Tryz.call40 (fun w hs => dg_number _ v w (he.sym hs) hv)) (fun _ _ => ?_)
              refine RunL.still rfl rfl rfl (Still.fieldAddrL (off := 0) (off' := 0) rfl rfl Tryz.underlying62 rfl Tryz.sizeOf60 rfl) ?_
              refine RunL.still rfl rfl rfl (Still.indexArrNL rfl rfl rfl Tryz.underlying60 Tryz.sizeOf3 (by omega)) ?_
              refine RunL.does0 rfl rfl (Does.store1 rfl rfl rfl (i := 0) rfl Tryz.sizeOf3 rfl (Nat.ble_eq_true_of_le (show 0 + k * 1 + 1 ≤ 5 by omega))) (fun _ _ => ?_)
              refine RunL.conv (fun _ hs => hs.re 0 rfl (show _ = HL.obj b4 (.cells #[iv (cr4 (l ++ [v]) sg).a0, iv (cr4 (l ++ [v]) sg).a1, iv (cr4 (l ++ [v]) sg).a2, iv (cr4 (l ++ [v]) sg).a3, iv (cr4 (l ++ [v]) sg).s] 62 (0, 0)) from congrArg (fun z => HL.obj b4 (.cells z 62 (0, 0))) (cr4_set hll hk4 sg _))) ?_
              refine RunL.nil ?_
              refine Ends.block ?_
              refine Ends.then ?_
              refine RunC.region ?_
              refine RunL.still rfl rfl rfl (Still.add rfl rfl rfl (fits64 (by omega) (by omega))) ?_
              refine RunL.still rfl rfl rfl (Still.move rfl rfl) ?_
              refine RunL.nil ?_
              refine Ends.again (k + 1, l ++ [v]) ?_ ?_ (Fr.Sub.app ?_ ?_) ?_
              · exact ⟨by omega, by rw [List.length_append, hll]; rfl, hnt.snoc (by rw [hll]; exact hv)⟩
              · show 4 - (k + 1) < 4 - k; omega
              · exact Fr.Sub.cons rfl (Fr.Sub.nil _)
              · exact Fr.Sub.cons rfl (Fr.Sub.cons rfl (Fr.Sub.cons rfl (Fr.Sub.nil _)))
              · exact HSub.pick 0 rfl (HSub.pick 0 rfl (HSub.pick 0 rfl (HSub.nil _)))
            · have hno := cross_not hp hk4 (fun v hv => hn ⟨v, hv⟩)
              refine RunL.dies (vs := #[_]) (u := noTextV) rfl rfl rfl Tryz.call40 (fun w hs => dg_number_bad _ w (he.sym hs) (piece_size hps hz k) (fun v hv => hn ⟨v, hv⟩)) ?_
              refine Ends.block_panic ?_
              refine Ends.then_panic ?_
              refine Ends.then_panic ?_
              refine Ends.block_panic ?_
              refine Ends.then_panic ?_
              exact Ends.die rfl (fun w hs => .inr ⟨hno, rfl, hs.sub (HSub.nil _)⟩)
          · have h32 := of_decide_eq_false h32
            obtain rfl : k = 4 := by omega
            have hcr : Cross s (cr4 l sg) := cross_of hp h0 (hnt 0 (by omega)) (hnt 1 (by omega)) (hnt 2 (by omega)) (hnt 3 (by omega))
            refine RunC.exit ?_
            refine Ends.then_exit ?_
            refine Ends.then_exit ?_
            refine Ends.block_exit ?_
            refine Ends.then ?_
            refine RunC.seq ?_
            refine RunC.region ?_
            refine RunL.still rfl rfl rfl (Still.loads rfl rfl Tryz.isAgg62 Tryz.sizeOf62 (vs := [_, _, _, _, _]) rfl (fun _ hs => cells_nth (hs.at (i := 0) rfl) ⟨rfl, ⟨rfl, ⟨rfl, ⟨rfl, ⟨rfl, trivial⟩⟩⟩⟩⟩)) ?_
            refine RunL.does0 rfl rfl (Does.store rfl rfl rfl (i := 2) rfl Tryz.sizeOf62 rfl (rfl) rfl) (fun _ _ => ?_)
            refine RunL.nil ?_
            refine Ends.then ?_
            refine RunC.ret ?_
            refine Ends.leave (.inl rfl) (fun _ _ ok => results1 Tryz.results39 (Holds.cell rfl (fun _ hs => load_cells (vs := [_, _, _, _, _]) Tryz.isAgg62 Tryz.sizeOf62 rfl (cells_nth (hs.at (i := 2) rfl) ⟨rfl, ⟨rfl, ⟨rfl, ⟨rfl, ⟨rfl, trivial⟩⟩⟩⟩⟩))) ok) (fun w2 hs => ?_)
            exact .inl ⟨_, hcr, rfl, hs.sub (HSub.nil _)⟩
    · have h16 := of_decide_eq_false h16
      refine RunL.off rfl rfl rfl ?_
      refine RunL.off rfl rfl rfl ?_
      refine RunL.off rfl rfl rfl ?_
      refine RunL.off rfl rfl rfl ?_
      refine RunL.still rfl rfl rfl (Still.pickF rfl rfl rfl) ?_
      refine RunL.still rfl rfl rfl (Still.pickF rfl rfl rfl) ?_
      refine RunL.nil ?_
      refine Ends.then ?_
      refine RunC.cond_false rfl ?_
      refine RunC.skip ?_
      refine Ends.then ?_
      refine RunC.seq ?_
      refine RunC.region ?_
      refine RunL.still rfl rfl rfl (Still.build_1 (fun x0_0 => .agg #[.int .i64 0, .int .i64 0, .int .i64 0, .int .i64 0, x0_0]) rfl rfl (fun _ => by kernel_rfl)) ?_
      refine RunL.grows rfl rfl rfl (Grows.alloc rfl Tryz.zeroValue62) (fun b4 _ => ?_)
      refine RunL.does0 rfl rfl (Does.store rfl rfl rfl (i := 0) rfl Tryz.sizeOf62 rfl (rfl) rfl) (fun _ _ => ?_)
      refine RunL.nil ?_
      refine Ends.then ?_
      refine RunC.seq ?_
      refine RunC.seq ?_
      refine RunC.region ?_
      refine RunL.still rfl rfl rfl (Still.move rfl rfl) ?_
      refine RunL.still rfl rfl rfl (Still.indexSliceEL 0 rfl rfl rfl Tryz.underlying59 Tryz.sizeOf9 (rfl) (by omega)) ?_
      refine RunL.still rfl rfl rfl (Still.load rfl rfl Tryz.isAgg9 (fun _ hs => cell_nth (hs.at (i := 1) rfl) rfl)) ?_
      refine RunL.still rfl rfl rfl (Still.eqlStrD rfl rfl rfl) ?_
      refine RunL.nil ?_
      refine Ends.then ?_
      refine RunC.cond rfl (fun h29 => ?_) (fun h29 => ?_)
      · have h29 := of_decide_eq_true h29
        obtain ⟨sg, hsg, h0⟩ : ∃ sg : Int, sg = -1 ∧ (sg = 1 ∧ p0 = ⟨#[43]⟩ ∨ sg = -1 ∧ p0 = ⟨#[45]⟩) := ⟨_, rfl, .inr ⟨rfl, h29⟩⟩
        refine RunC.region ?_
        refine RunL.still rfl rfl rfl (Still.fieldAddrL (off := 0) (off' := 4) rfl rfl Tryz.underlying62 rfl Tryz.sizeOf3 rfl) ?_
        refine RunL.does0 rfl rfl (Does.store1 rfl rfl rfl (i := 0) rfl Tryz.sizeOf3 (rfl) (rfl)) (fun _ _ => ?_)
        refine RunL.nil ?_
        refine Ends.then ?_
        refine RunC.seq ?_
        refine RunC.seq ?_
        refine RunC.region ?_
        refine RunL.still rfl rfl rfl (Still.move rfl rfl) ?_
        refine RunL.nil ?_
        refine Ends.then ?_
        refine RunC.block ?_
        refine RunC.loop2 (γ := Nat × List Int) (keep := [(2, _), (3, _), (4, _)]) (hkeep := [_, _]) (fun (k, l) => k ≤ 4 ∧ l.length = k ∧ NumsTo p1 p2 p3 p4 l) (fun (k, l) => 4 - k) (fun (k, l) => [(31, iv k)]) (fun (k, l) => [HL.obj b4 (.cells #[iv (cr4 l sg).a0, iv (cr4 l sg).a1, iv (cr4 l sg).a2, iv (cr4 l sg).a3, iv (cr4 l sg).s] 62 (0, 0))]) (0, []) ⟨by omega, rfl, fun j hj => absurd hj (Nat.not_lt_zero _)⟩ (Fr.Sub.cons rfl (Fr.Sub.nil _)) (Fr.Sub.cons rfl (Fr.Sub.cons rfl (Fr.Sub.cons rfl (Fr.Sub.nil _)))) (HSub.pick 0 (by rw [hsg]; rfl) (HSub.pick 0 rfl (HSub.pick 0 rfl (HSub.nil _)))) ?_
        rintro ⟨k, l⟩ ⟨hk, hll, hnt⟩
        have hk : k ≤ 4 := hk
        have hll : l.length = k := hll
        refine RunC.seq ?_
        refine RunC.region ?_
        refine RunL.still rfl rfl rfl (Still.lss rfl rfl rfl) ?_
        refine RunL.nil ?_
        refine Ends.then ?_
        refine RunC.seq ?_
        refine RunC.cond rfl (fun h32 => ?_) (fun h32 => ?_)
        · have h32 := of_decide_eq_true h32
          have hk4 : k < 4 := by omega
          refine RunC.skip ?_
          refine Ends.then ?_
          refine RunC.seq ?_
          refine RunC.block ?_
          refine RunC.seq ?_
          refine RunC.region ?_
          refine RunL.still rfl rfl rfl (Still.move rfl rfl) ?_
          refine RunL.still rfl rfl rfl (Still.assign rfl rfl) ?_
          refine RunL.nil ?_
          refine Ends.then ?_
          refine RunC.region ?_
          refine RunL.still rfl rfl rfl (Still.move rfl rfl) ?_
          refine RunL.still rfl rfl rfl (Still.move rfl rfl) ?_
          refine RunL.still rfl rfl rfl (Still.move rfl rfl) ?_
          refine RunL.still rfl rfl rfl (Still.add rfl rfl rfl (fits64 (by omega) (by omega))) ?_
          refine RunL.still rfl rfl rfl (Still.indexSliceEL (k + 1) rfl rfl rfl Tryz.underlying59 Tryz.sizeOf9 (by omega) (by omega)) ?_
          refine RunL.still rfl rfl rfl (Still.load (v := .string (pieceAt p1 p2 p3 p4 k)) rfl rfl Tryz.isAgg9 (fun _ hs => cell_nth (hs.at (i := 1) rfl) (nth_piece hk4))) ?_
          by_cases hn : ∃ v, Num (pieceAt p1 p2 p3 p4 k) v
          · obtain ⟨v, hv⟩ := hn
            refine RunL.grows rfl rfl rfl (Grows.call (vs := #[_]) rfl rfl Tryz.call40 (fun w hs => dg_number _ v w (he.sym hs) hv)) (fun _ _ => ?_)
            refine RunL.still rfl rfl rfl (Still.fieldAddrL (off := 0) (off' := 0) rfl rfl Tryz.underlying62 rfl Tryz.sizeOf60 rfl) ?_
            refine RunL.still rfl rfl rfl (Still.indexArrNL rfl rfl rfl Tryz.underlying60 Tryz.sizeOf3 (by omega)) ?_
            refine RunL.does0 rfl rfl (Does.store1 rfl rfl rfl (i := 0) rfl Tryz.sizeOf3 rfl (Nat.ble_eq_true_of_le (show 0 + k * 1 + 1 ≤ 5 by omega))) (fun _ _ => ?_)
            refine RunL.conv (fun _ hs => hs.re 0 rfl (show _ = HL.obj b4 (.cells #[iv (cr4 (l ++ [v]) sg).a0, iv (cr4 (l ++ [v]) sg).a1, iv (cr4 (l ++ [v]) sg).a2, iv (cr4 (l ++ [v]) sg).a3, iv (cr4 (l ++ [v]) sg).s] 62 (0, 0)) from congrArg (fun z => HL.obj b4 (.cells z 62 (0, 0))) (cr4_set hll hk4 sg _))) ?_
            refine RunL.nil ?_
            refine Ends.block ?_
            refine Ends.then ?_
            refine RunC.region ?_
            refine RunL.still rfl rfl rfl (Still.add rfl rfl rfl (fits64 (by omega) (by omega))) ?_
            refine RunL.still rfl rfl rfl (Still.move rfl rfl) ?_
            refine RunL.nil ?_
            refine Ends.again (k + 1, l ++ [v]) ?_ ?_ (Fr.Sub.app ?_ ?_) ?_
            · exact ⟨by omega, by rw [List.length_append, hll]; rfl, hnt.snoc (by rw [hll]; exact hv)⟩
            · show 4 - (k + 1) < 4 - k; omega
            · exact Fr.Sub.cons rfl (Fr.Sub.nil _)
            · exact Fr.Sub.cons rfl (Fr.Sub.cons rfl (Fr.Sub.cons rfl (Fr.Sub.nil _)))
            · exact HSub.pick 0 rfl (HSub.pick 0 rfl (HSub.pick 0 rfl (HSub.nil _)))
          · have hno := cross_not hp hk4 (fun v hv => hn ⟨v, hv⟩)
            refine RunL.dies (vs := #[_]) (u := noTextV) rfl rfl rfl Tryz.call40 (fun w hs => dg_number_bad _ w (he.sym hs) (piece_size hps hz k) (fun v hv => hn ⟨v, hv⟩)) ?_
            refine Ends.block_panic ?_
            refine Ends.then_panic ?_
            refine Ends.then_panic ?_
            refine Ends.block_panic ?_
            refine Ends.then_panic ?_
            exact Ends.die rfl (fun w hs => .inr ⟨hno, rfl, hs.sub (HSub.nil _)⟩)
        · have h32 := of_decide_eq_false h32
          obtain rfl : k = 4 := by omega
          have hcr : Cross s (cr4 l sg) := cross_of hp h0 (hnt 0 (by omega)) (hnt 1 (by omega)) (hnt 2 (by omega)) (hnt 3 (by omega))
          refine RunC.exit ?_
          refine Ends.then_exit ?_
          refine Ends.then_exit ?_
          refine Ends.block_exit ?_
          refine Ends.then ?_
          refine RunC.seq ?_
          refine RunC.region ?_
          refine RunL.still rfl rfl rfl (Still.loads rfl rfl Tryz.isAgg62 Tryz.sizeOf62 (vs := [_, _, _, _, _]) rfl (fun _ hs => cells_nth (hs.at (i := 0) rfl) ⟨rfl, ⟨rfl, ⟨rfl, ⟨rfl, ⟨rfl, trivial⟩⟩⟩⟩⟩)) ?_
          refine RunL.does0 rfl rfl (Does.store rfl rfl rfl (i := 2) rfl Tryz.sizeOf62 rfl (rfl) rfl) (fun _ _ => ?_)
          refine RunL.nil ?_
          refine Ends.then ?_
          refine RunC.ret ?_
          refine Ends.leave (.inl rfl) (fun _ _ ok => results1 Tryz.results39 (Holds.cell rfl (fun _ hs => load_cells (vs := [_, _, _, _, _]) Tryz.isAgg62 Tryz.sizeOf62 rfl (cells_nth (hs.at (i := 2) rfl) ⟨rfl, ⟨rfl, ⟨rfl, ⟨rfl, ⟨rfl, trivial⟩⟩⟩⟩⟩))) ok) (fun w3 hs => ?_)
          exact .inl ⟨_, hcr, rfl, hs.sub (HSub.nil _)⟩
      · have h29 := of_decide_eq_false h29
        have hp43 : p0 = ⟨#[43]⟩ := by first | exact Decidable.not_not.1 h16 | exact absurd (Decidable.not_not.1 h22) h29
        obtain ⟨sg, hsg, h0⟩ : ∃ sg : Int, sg = 1 ∧ (sg = 1 ∧ p0 = ⟨#[43]⟩ ∨ sg = -1 ∧ p0 = ⟨#[45]⟩) := ⟨_, rfl, .inl ⟨rfl, hp43⟩⟩
        refine RunC.skip ?_
        refine Ends.then ?_
        refine RunC.seq ?_
        refine RunC.seq ?_
        refine RunC.region ?_
        refine RunL.still rfl rfl rfl (Still.move rfl rfl) ?_
        refine RunL.nil ?_
        refine Ends.then ?_
        refine RunC.block ?_
        refine RunC.loop2 (γ := Nat × List Int) (keep := [(2, _), (3, _), (4, _)]) (hkeep := [_, _]) (fun (k, l) => k ≤ 4 ∧ l.length = k ∧ NumsTo p1 p2 p3 p4 l) (fun (k, l) => 4 - k) (fun (k, l) => [(31, iv k)]) (fun (k, l) => [HL.obj b4 (.cells #[iv (cr4 l sg).a0, iv (cr4 l sg).a1, iv (cr4 l sg).a2, iv (cr4 l sg).a3, iv (cr4 l sg).s] 62 (0, 0))]) (0, []) ⟨by omega, rfl, fun j hj => absurd hj (Nat.not_lt_zero _)⟩ (Fr.Sub.cons rfl (Fr.Sub.nil _)) (Fr.Sub.cons rfl (Fr.Sub.cons rfl (Fr.Sub.cons rfl (Fr.Sub.nil _)))) (HSub.pick 0 (by rw [hsg]; rfl) (HSub.pick 0 rfl (HSub.pick 0 rfl (HSub.nil _)))) ?_
        rintro ⟨k, l⟩ ⟨hk, hll, hnt⟩
        have hk : k ≤ 4 := hk
        have hll : l.length = k := hll
        refine RunC.seq ?_
        refine RunC.region ?_
        refine RunL.still rfl rfl rfl (Still.lss rfl rfl rfl) ?_
        refine RunL.nil ?_
        refine Ends.then ?_
        refine RunC.seq ?_
        refine RunC.cond rfl (fun h32 => ?_) (fun h32 => ?_)
        · have h32 := of_decide_eq_true h32
          have hk4 : k < 4 := by omega
          refine RunC.skip ?_
          refine Ends.then ?_
          refine RunC.seq ?_
          refine RunC.block ?_
          refine RunC.seq ?_
          refine RunC.region ?_
          refine RunL.still rfl rfl rfl (Still.move rfl rfl) ?_
          refine RunL.still rfl rfl rfl (Still.assign rfl rfl) ?_
          refine RunL.nil ?_
          refine Ends.then ?_
          refine RunC.region ?_
          refine RunL.still rfl rfl rfl (Still.move rfl rfl) ?_
          refine RunL.still rfl rfl rfl (Still.move rfl rfl) ?_
          refine RunL.still rfl rfl rfl (Still.move rfl rfl) ?_
          refine RunL.still rfl rfl rfl (Still.add rfl rfl rfl (fits64 (by omega) (by omega))) ?_
          refine RunL.still rfl rfl rfl (Still.indexSliceEL (k + 1) rfl rfl rfl Tryz.underlying59 Tryz.sizeOf9 (by omega) (by omega)) ?_
          refine RunL.still rfl rfl rfl (Still.load (v := .string (pieceAt p1 p2 p3 p4 k)) rfl rfl Tryz.isAgg9 (fun _ hs => cell_nth (hs.at (i := 1) rfl) (nth_piece hk4))) ?_
          by_cases hn : ∃ v, Num (pieceAt p1 p2 p3 p4 k) v
          · obtain ⟨v, hv⟩ := hn
            refine RunL.grows rfl rfl rfl (Grows.call (vs := #[_]) rfl rfl Tryz.call40 (fun w hs => dg_number _ v w (he.sym hs) hv)) (fun _ _ => ?_)
            refine RunL.still rfl rfl rfl (Still.fieldAddrL (off := 0) (off' := 0) rfl rfl Tryz.underlying62 rfl Tryz.sizeOf60 rfl) ?_
            refine RunL.still rfl rfl rfl (Still.indexArrNL rfl rfl rfl Tryz.underlying60 Tryz.sizeOf3 (by omega)) ?_
            refine RunL.does0 rfl rfl (Does.store1 rfl rfl rfl (i := 0) rfl Tryz.sizeOf3 rfl (Nat.ble_eq_true_of_le (show 0 + k * 1 + 1 ≤ 5 by omega))) (fun _ _ => ?_)
            refine RunL.conv (fun _ hs => hs.re 0 rfl (show _ = HL.obj b4 (.cells #[iv (cr4 (l ++ [v]) sg).a0, iv (cr4 (l ++ [v]) sg).a1, iv (cr4 (l ++ [v]) sg).a2, iv (cr4 (l ++ [v]) sg).a3, iv (cr4 (l ++ [v]) sg).s] 62 (0, 0)) from congrArg (fun z => HL.obj b4 (.cells z 62 (0, 0))) (cr4_set hll hk4 sg _))) ?_
            refine RunL.nil ?_
            refine Ends.block ?_
            refine Ends.then ?_
            refine RunC.region ?_
            refine RunL.still rfl rfl rfl (Still.add rfl rfl rfl (fits64 (by omega) (by omega))) ?_
            refine RunL.still rfl rfl rfl (Still.move rfl rfl) ?_
            refine RunL.nil ?_
            refine Ends.again (k + 1, l ++ [v]) ?_ ?_ (Fr.Sub.app ?_ ?_) ?_
            · exact ⟨by omega, by rw [List.length_append, hll]; rfl, hnt.snoc (by rw [hll]; exact hv)⟩
            · show 4 - (k + 1) < 4 - k; omega
            · exact Fr.Sub.cons rfl (Fr.Sub.nil _)
            · exact Fr.Sub.cons rfl (Fr.Sub.cons rfl (Fr.Sub.cons rfl (Fr.Sub.nil _)))
            · exact HSub.pick 0 rfl (HSub.pick 0 rfl (HSub.pick 0 rfl (HSub.nil _)))
          · have hno := cross_not hp hk4 (fun v hv => hn ⟨v, hv⟩)
            refine RunL.dies (vs := #[_]) (u := noTextV) rfl rfl rfl Tryz.call40 (fun w hs => dg_number_bad _ w (he.sym hs) (piece_size hps hz k) (fun v hv => hn ⟨v, hv⟩)) ?_
            refine Ends.block_panic ?_
            refine Ends.then_panic ?_
            refine Ends.then_panic ?_
            refine Ends.block_panic ?_
            refine Ends.then_panic ?_
            exact Ends.die rfl (fun w hs => .inr ⟨hno, rfl, hs.sub (HSub.nil _)⟩)
        · have h32 := of_decide_eq_false h32
          obtain rfl : k = 4 := by omega
          have hcr : Cross s (cr4 l sg) := cross_of hp h0 (hnt 0 (by omega)) (hnt 1 (by omega)) (hnt 2 (by omega)) (hnt 3 (by omega))
          refine RunC.exit ?_
          refine Ends.then_exit ?_
          refine Ends.then_exit ?_
          refine Ends.block_exit ?_
          refine Ends.then ?_
          refine RunC.seq ?_
          refine RunC.region ?_
          refine RunL.still rfl rfl rfl (Still.loads rfl rfl Tryz.isAgg62 Tryz.sizeOf62 (vs := [_, _, _, _, _]) rfl (fun _ hs => cells_nth (hs.at (i := 0) rfl) ⟨rfl, ⟨rfl, ⟨rfl, ⟨rfl, ⟨rfl, trivial⟩⟩⟩⟩⟩)) ?_
          refine RunL.does0 rfl rfl (Does.store rfl rfl rfl (i := 2) rfl Tryz.sizeOf62 rfl (rfl) rfl) (fun _ _ => ?_)
          refine RunL.nil ?_
          refine Ends.then ?_
          refine RunC.ret ?_
          refine Ends.leave (.inl rfl) (fun _ _ ok => results1 Tryz.results39 (Holds.cell rfl (fun _ hs => load_cells (vs := [_, _, _, _, _]) Tryz.isAgg62 Tryz.sizeOf62 rfl (cells_nth (hs.at (i := 2) rfl) ⟨rfl, ⟨rfl, ⟨rfl, ⟨rfl, ⟨rfl, trivial⟩⟩⟩⟩⟩))) ok) (fun w4 hs => ?_)
          exact .inl ⟨_, hcr, rfl, hs.sub (HSub.nil _)⟩

theorem dg_crossing_ok (s : ByteArray) (x : Cr) (w : World) (he : Env w) (hz : s.size ≤ 200000) (hx : Cross s x) : Gives Tryz.prog 39 #[.string s] w Nil (fun _ : Unit => True) (fun _ => crV x) (fun _ => []) := by
  refine Calls.mono (dg_crossing s w he hz) ?_
  rintro e w' (⟨y, hy, rfl, hs⟩ | ⟨hno, _⟩)
  · rw [hx.uniq hy]; exact ⟨(), trivial, rfl, hs⟩
  · exact absurd hx (hno x)
theorem dg_crossing_bad (s : ByteArray) (w : World) (he : Env w) (hz : s.size ≤ 200000) (hx : ∀ x, ¬ Cross s x) : Dies Tryz.prog 39 #[.string s] w noTextV := by
  refine Calls.mono (dg_crossing s w he hz) ?_
  rintro e w' (⟨y, hy, _⟩ | ⟨_, rfl, hs⟩)
  · exact absurd hy (hx y)
  · exact ⟨rfl, hs⟩

end Go.Proofs
/- The deferred closure of Parse. -/
namespace Go.Proofs
open Go Go.V
set_option maxRecDepth 20000
theorem parse_rec (ba bb : Nat) (v l e : Value) {w0 : World} {S0 : Nat → Prop} (w : World) (hs : Sym w0 S0 [HL.obj ba (.cells #[v, l] 24 (0, 0)), HL.obj bb (.cells #[e] 26 (0, 0))] w) : CallsBack Tryz.prog 36 #[ptrV ba, ptrV bb] (.panicking [{ v := noTextV, recovered := false }]) (.panicking [{ v := noTextV, recovered := true }]) w (fun c => ∃ k ∈ [HL.obj ba (.cells #[v, l] 24 (0, 0)), HL.obj bb (.cells #[e] 26 (0, 0))], k.supp c) [HL.obj ba (.cells #[.slice none 0 0, iv 0] 24 (0, 0)), HL.obj bb (.cells #[iv 4] 26 (0, 0))] := by
  refine callsBack_recover (args := [ptrV ba, ptrV bb]) (n := 17) Tryz.func36 rfl rfl rfl rfl rfl rfl rfl Tryz.ntmps36 (Nat.le_of_ble_eq_true rfl) rfl rfl Tryz.results36 hs.hand rfl ?_
  change RunC _ _ _ [(2, _), (5, _), (0, _), (1, _)] _
  refine RunC.seq ?_
  refine RunC.region ?_
  refine RunL.still rfl rfl rfl (Still.move rfl rfl) ?_
  refine RunL.still rfl rfl rfl (Still.neqNilI rfl rfl in_iface20) ?_
  refine RunL.nil ?_
  refine Ends.then ?_
  refine RunC.cond_true rfl ?_
  refine RunC.seq ?_
  refine RunC.seq ?_
  refine RunC.region ?_
  refine RunL.still rfl rfl rfl (Still.move rfl rfl) ?_
  refine RunL.still rfl rfl rfl (Still.typeAssertOk rfl rfl Tryz.underlying66) ?_
  refine RunL.still rfl rfl rfl (Still.move rfl rfl) ?_
  refine RunL.still rfl rfl rfl (Still.extractN rfl rfl rfl) ?_
  refine RunL.still rfl rfl rfl (Still.extractN rfl rfl rfl) ?_
  refine RunL.again (t := 12) (u := .bool true) rfl (rfl) ?_
  refine RunL.grows rfl rfl rfl (Grows.alloc rfl Tryz.zeroValue66) (fun b3 _ => ?_)
  refine RunL.does0 rfl rfl (Does.store rfl rfl rfl (i := 0) rfl Tryz.sizeOf66 rfl (rfl) rfl) (fun _ _ => ?_)
  refine RunL.still rfl rfl rfl (Still.assign rfl rfl) ?_
  refine RunL.nil ?_
  refine Ends.then ?_
  refine RunC.seq ?_
  refine RunC.region ?_
  refine RunL.still rfl rfl rfl (Still.move rfl rfl) ?_
  refine RunL.still rfl rfl rfl (Still.not rfl rfl) ?_
  refine RunL.nil ?_
  refine Ends.then ?_
  refine RunC.cond_false rfl ?_
  refine RunC.skip ?_
  refine Ends.then ?_
  refine RunC.region ?_
  refine RunL.still rfl rfl rfl (Still.build_0 (.agg #[.slice none 0 0, .int .i64 0]) rfl (fun _ => by kernel_rfl)) ?_
  refine RunL.does0 rfl rfl (Does.store rfl rfl rfl (i := 1) rfl Tryz.sizeOf24 rfl (rfl) rfl) (fun _ _ => ?_)
  refine RunL.does0 rfl rfl (Does.store1 rfl rfl rfl (i := 2) rfl Tryz.sizeOf26 (rfl) (rfl)) (fun _ _ => ?_)
  refine RunL.nil ?_
  exact Ends.back (.inr rfl) rfl (HSub.pick 1 rfl (HSub.pick 1 rfl (HSub.nil _)))

theorem parse_ret (ba bb : Nat) (v l e : Value) {w0 : World} {S0 : Nat → Prop} (w : World) (hs : Sym w0 S0 [HL.obj ba (.cells #[v, l] 24 (0, 0)), HL.obj bb (.cells #[e] 26 (0, 0))] w) : CallsBack Tryz.prog 36 #[ptrV ba, ptrV bb] .returning .returning w (fun c => ∃ k ∈ [HL.obj ba (.cells #[v, l] 24 (0, 0)), HL.obj bb (.cells #[e] 26 (0, 0))], k.supp c) [HL.obj ba (.cells #[v, l] 24 (0, 0)), HL.obj bb (.cells #[e] 26 (0, 0))] := by
  refine callsBack_recover (args := [ptrV ba, ptrV bb]) (n := 17) Tryz.func36 rfl rfl rfl rfl rfl rfl rfl Tryz.ntmps36 (Nat.le_of_ble_eq_true rfl) rfl rfl Tryz.results36 hs.hand rfl ?_
  change RunC _ _ _ [(2, _), (5, _), (0, _), (1, _)] _
  refine RunC.seq ?_
  refine RunC.region ?_
  refine RunL.still rfl rfl rfl (Still.move rfl rfl) ?_
  refine RunL.still rfl rfl rfl (Still.neqNilN rfl rfl in_iface20) ?_
  refine RunL.nil ?_
  refine Ends.then ?_
  refine RunC.cond_false rfl ?_
  refine RunC.skip ?_
  exact Ends.back (.inr rfl) rfl (HSub.pick 0 rfl (HSub.pick 0 rfl (HSub.nil _)))

end Go.Proofs
/- Texts of diagrams: the reference reads exactly what is written. -/
namespace Go.V
open Go
def OkCr (x : Cr) : Prop := (x.s = 1 ∨ x.s = -1) ∧ MidCr x
abbrev numL (n : Int) : By := Lib.decDigits n.toNat
abbrev crL (x : Cr) : By := (crS x).data.toList
/-- From p on stands l. -/
def AtL (t : ByteArray) (p : Nat) (l : By) : Prop := p ≤ t.size ∧ t.data.toList.drop p = l
theorem size_list (t : ByteArray) : t.data.toList.length = t.size := Array.length_toList
theorem extract_list (t : ByteArray) (a b : Nat) : (t.extract a b).data.toList = (t.data.toList.drop a).take (b - a) := by
  rw [Lib.extract_data]
theorem AtL.len {t : ByteArray} {p : Nat} {l : By} (h : AtL t p l) : p + l.length = t.size := by
  rw [← h.2, List.length_drop, size_list]; have := h.1; omega
theorem AtL.app {t : ByteArray} {p : Nat} {l r : By} (h : AtL t p (l ++ r)) : AtL t (p + l.length) r := by
  have h1 := h.len
  rw [List.length_append] at h1
  refine ⟨by omega, ?_⟩
  rw [← List.drop_drop, h.2, List.drop_left]
theorem AtL.takes {t s : ByteArray} {p : Nat} {r : By} (h : AtL t p (s.data.toList ++ r)) : takesB t p s = true := by
  have h1 := h.len
  rw [List.length_append, size_list] at h1
  refine decide_eq_true ⟨by omega, ba_ext ?_⟩
  rw [extract_list, h.2, show p + s.size - p = s.size by omega, ← size_list s, List.take_left]
theorem AtL.taken {t s : ByteArray} {p : Nat} {l : By} (h : AtL t p l) (ht : takesB t p s = true) : ∃ r, l = s.data.toList ++ r ∧ AtL t (p + s.size) r := by
  have h1 := of_decide_eq_true ht
  have h2 : (t.extract p (p + s.size)).data.toList = s.data.toList := congrArg (fun z : ByteArray => z.data.toList) h1.2
  rw [extract_list, h.2, show p + s.size - p = s.size by omega] at h2
  have e : l = s.data.toList ++ l.drop s.size := by rw [← h2, List.take_append_drop]
  refine ⟨l.drop s.size, e, ?_⟩
  have h3 : AtL t p (s.data.toList ++ l.drop s.size) := by rw [← e]; exact h
  have := h3.app
  rwa [size_list] at this
theorem AtL.not {t s : ByteArray} {p : Nat} {c d : UInt8} {l m : By} (h : AtL t p (c :: l)) (hs : s.data.toList = d :: m) (hne : c ≠ d) : takesB t p s = false := by
  cases ht : takesB t p s with
  | false => rfl
  | true =>
    obtain ⟨r, e, _⟩ := h.taken ht
    rw [hs] at e
    simp only [List.cons_append, List.cons.injEq] at e
    exact absurd e.1 hne
theorem AtL.byte {t : ByteArray} {p : Nat} {c : UInt8} {l : By} (h : AtL t p (c :: l)) : p < t.size ∧ byteAt t p = c.toNat := by
  have h1 := h.len
  simp only [List.length_cons] at h1
  refine ⟨by omega, ?_⟩
  rw [byteAt, List.getD_eq_getElem?_getD]
  have : t.data.toList[p]? = some c := by
    have h2 := congrArg (fun z : By => z[0]?) h.2
    simpa using h2
  rw [this]; rfl
theorem AtL.nil {t : ByteArray} {p : Nat} (h : AtL t p []) : p = t.size := by have := h.len; simpa using this
/-- What follows is no digit. -/
def NoDig (r : By) : Prop := ∀ c m, r = c :: m → c.toNat < 48 ∨ 57 < c.toNat
theorem AtL.stop {t : ByteArray} {p : Nat} {r : By} (h : AtL t p r) (hn : NoDig r) (f n : Nat) : runD t f p n = (p, n) := by
  refine runD_stop (fun hd => ?_)
  cases r with
  | nil => have := h.nil; omega
  | cons c m =>
    have := h.byte
    have h2 := hn c m rfl
    omega
theorem runD_dec {t : ByteArray} (u : Nat) : ∀ (f p acc : Nat) (r : By), AtL t p (Lib.decDigits u ++ r) → (Lib.decDigits u).length ≤ f → runD t f p acc = runD t (f - (Lib.decDigits u).length) (p + (Lib.decDigits u).length) (acc * 10 ^ (Lib.decDigits u).length + u) := by
  induction u using Nat.strongRecOn with
  | ind u ih =>
    intro f p acc r h hf
    by_cases hu : u < 10
    · rw [Lib.decDigits_one hu] at h hf ⊢
      simp only [List.length_singleton, Nat.pow_one, List.cons_append, List.nil_append] at h hf ⊢
      obtain ⟨h1, h2⟩ := h.byte
      have hb := dig_byte hu
      rw [hb] at h2
      obtain ⟨f, rfl⟩ : ∃ g, f = g + 1 := ⟨f - 1, by omega⟩
      rw [runD_go h1 (by omega) (by omega), h2, show f + 1 - 1 = f by omega]
      congr 1; omega
    · have e : Lib.decDigits u = Lib.decDigits (u / 10) ++ [UInt8.ofNat (48 + u % 10)] := by rw [Lib.decDigits, dif_neg hu]
      have hl : (Lib.decDigits u).length = (Lib.decDigits (u / 10)).length + 1 := by rw [e]; simp
      rw [hl] at hf ⊢
      have h0 : AtL t p (Lib.decDigits (u / 10) ++ (UInt8.ofNat (48 + u % 10) :: r)) := by
        rw [e, List.append_assoc] at h; exact h
      rw [ih (u / 10) (by omega) f p acc _ h0 (by omega)]
      obtain ⟨h1, h2⟩ := h0.app.byte
      have hb := dig_byte (Nat.mod_lt u (show 0 < 10 by omega))
      rw [hb] at h2
      obtain ⟨g, hg⟩ : ∃ g, f - (Lib.decDigits (u / 10)).length = g + 1 := ⟨f - (Lib.decDigits (u / 10)).length - 1, by omega⟩
      rw [hg, runD_go h1 (by omega) (by omega), h2, Nat.pow_succ, show f - ((Lib.decDigits (u / 10)).length + 1) = g by omega, Nat.add_assoc]
      congr 1
      rw [← Nat.mul_assoc]; omega
theorem dec_len : ∀ (k u : Nat), u < 10 ^ (k + 1) → (Lib.decDigits u).length ≤ k + 1
  | 0, u, h => by rw [Lib.decDigits_one (by simpa using h)]; exact Nat.le_refl _
  | k + 1, u, h => by
    by_cases hu : u < 10
    · rw [Lib.decDigits_one hu]; simp
    · rw [Lib.decDigits, dif_neg hu, List.length_append, List.length_singleton]
      have := dec_len k (u / 10) (by rw [Nat.pow_succ] at h; omega)
      omega
theorem AtL.num {t : ByteArray} {p : Nat} {n : Int} {r : By} (h : AtL t p (numL n ++ r)) (h0 : 0 ≤ n) (h1 : n ≤ 1000) (hr : NoDig r) : numP t p = (p + (numL n).length, n.toNat) ∧ numOk t p = true ∧ AtL t (p + (numL n).length) r := by
  have hl := dec_len 3 n.toNat (by omega)
  have e : numP t p = (p + (numL n).length, n.toNat) := by
    rw [numP, runD_dec n.toNat 5 p 0 r h (by omega), h.app.stop hr]
    simp
  have hne : 0 < (numL n).length := List.length_pos_iff.2 (decDigits_ne _)
  refine ⟨e, decide_eq_true ?_, h.app⟩
  rw [e]
  refine ⟨by simp only; omega, ba_ext ?_, by simp only; omega⟩
  rw [extract_list, h.2]
  simp only
  rw [show p + (numL n).length - p = (numL n).length by omega, List.take_left, show ((n.toNat : Nat) : Int) = n by omega]
  simp [numS]
theorem numS_list (n : Int) : (numS n).data.toList = numL n := by simp [numS]
theorem AtL.numed {t : ByteArray} {p : Nat} {l : By} (h : AtL t p l) (hk : numOk t p = true) : ∃ r, l = numL ((numP t p).2 : Nat) ++ r ∧ AtL t (numP t p).1 r ∧ (numP t p).2 ≤ 1000 := by
  have h1 := of_decide_eq_true hk
  have hb := numP_bound h.1
  have h2 : (numS ((numP t p).2 : Nat)).data.toList = (t.extract p (numP t p).1).data.toList := congrArg (fun z : ByteArray => z.data.toList) h1.2.1
  rw [extract_list, h.2] at h2
  have e : l = numL ((numP t p).2 : Nat) ++ l.drop ((numP t p).1 - p) := by
    have := numS_list ((numP t p).2 : Nat)
    rw [← this, h2, List.take_append_drop]
  refine ⟨_, e, ⟨hb.2, ?_⟩, h1.2.2⟩
  rw [← h.2, List.drop_drop]
  congr 1; omega
/-! ### Crossings -/
def arcsT (l : List Int) : By := l.flatMap fun a => 32 :: numL a
theorem crL_eq (x : Cr) : crL x = (if x.s < 0 then 45 else 43) :: arcsT [x.a0, x.a1, x.a2, x.a3] := by
  show (crS x).data.toList = _
  simp only [crS, crTo, sgnS]
  split <;> simp [arcsT, Cr.arc, numS]
theorem arcR_sound {t : ByteArray} {s : Rd} {l : By} (h : AtL t s.p l) (hk : (arcR t s).ok = true) : s.ok = true ∧ ∃ (a : Nat) (r : By), (arcR t s).l = s.l ++ [(a : Int)] ∧ a ≤ 1000 ∧ l = 32 :: (numL a ++ r) ∧ AtL t (arcR t s).p r := by
  cases ho : s.ok with
  | false => rw [arcR_f ho] at hk; cases hk
  | true =>
    rw [arcR_t ho] at hk ⊢
    simp only [Bool.and_eq_true] at hk
    obtain ⟨r1, e1, h1⟩ := h.taken hk.1
    have et : takeP t s.p spS = s.p + 1 := (takeP_1 hk.1 (k := 1) rfl).1
    have h1' : AtL t (s.p + 1) r1 := h1
    rw [et] at hk ⊢
    obtain ⟨r2, e2, h2, hb⟩ := h1'.numed hk.2
    exact ⟨rfl, _, r2, rfl, hb, by rw [e1, e2]; rfl, h2⟩
theorem arcR_complete {t : ByteArray} {s : Rd} {a : Int} {r : By} (h : AtL t s.p (32 :: (numL a ++ r))) (ho : s.ok = true) (h0 : 0 ≤ a) (h1 : a ≤ 1000) (hr : NoDig r) : (arcR t s).ok = true ∧ (arcR t s).l = s.l ++ [a] ∧ AtL t (arcR t s).p r := by
  have ht : takesB t s.p spS = true := AtL.takes (s := spS) (r := numL a ++ r) h
  have et : takeP t s.p spS = s.p + 1 := (takeP_1 ht (k := 1) rfl).1
  have h2 : AtL t (s.p + 1) (numL a ++ r) := AtL.app (l := [32]) h
  obtain ⟨e, hk, h3⟩ := h2.num h0 h1 hr
  rw [arcR_t ho, et, e]
  exact ⟨by rw [ht, hk]; rfl, by simp only; rw [show ((a.toNat : Nat) : Int) = a by omega], h3⟩
theorem noDig_sp (l : By) : NoDig (32 :: l) := fun c m h => by
  simp only [List.cons.injEq] at h
  rw [← h.1]; exact .inl (by decide)
theorem noDig_semi (l : By) : NoDig (59 :: l) := fun c m h => by
  simp only [List.cons.injEq] at h
  rw [← h.1]; exact .inr (by decide)
theorem noDig_nil : NoDig [] := fun c m h => by cases h
theorem arcs_sound {t : ByteArray} {p : Nat} {l : By} (h : AtL t p l) (hk : (arcsR t p 4).ok = true) : ∃ (a0 a1 a2 a3 : Nat) (r : By), (arcsR t p 4).l = [(a0 : Int), a1, a2, a3] ∧ a0 ≤ 1000 ∧ a1 ≤ 1000 ∧ a2 ≤ 1000 ∧ a3 ≤ 1000 ∧ l = arcsT [(a0 : Int), a1, a2, a3] ++ r ∧ AtL t (arcsR t p 4).p r := by
  have hp := fun k => (arcsR_le (t := t) h.1 k).2
  have at' : ∀ k, AtL t (arcsR t p k).p (t.data.toList.drop (arcsR t p k).p) := fun k => ⟨hp k, rfl⟩
  obtain ⟨k3, a3, r3, e3, b3, t3, h3⟩ := arcR_sound (at' 3) hk
  obtain ⟨k2, a2, r2, e2, b2, t2, h2⟩ := arcR_sound (at' 2) k3
  obtain ⟨k1, a1, r1, e1, b1, t1, h1⟩ := arcR_sound (at' 1) k2
  obtain ⟨_, a0, r0, e0, b0, t0, h0⟩ := arcR_sound (s := arcsR t p 0) h k1
  have f1 : r0 = 32 :: (numL a1 ++ r1) := by rw [← t1]; exact h0.2.symm
  have f2 : r1 = 32 :: (numL a2 ++ r2) := by rw [← t2]; exact h1.2.symm
  have f3 : r2 = 32 :: (numL a3 ++ r3) := by rw [← t3]; exact h2.2.symm
  refine ⟨a0, a1, a2, a3, r3, ?_, b0, b1, b2, b3, ?_, h3⟩
  · show (arcR t (arcsR t p 3)).l = _
    rw [e3]
    show (arcR t (arcsR t p 2)).l ++ _ = _
    rw [e2]
    show ((arcR t (arcsR t p 1)).l ++ _) ++ _ = _
    rw [e1]
    show (((arcR t (arcsR t p 0)).l ++ _) ++ _) ++ _ = _
    rw [e0]; rfl
  · rw [t0, f1, f2, f3]; simp [arcsT]
theorem arcs_complete {t : ByteArray} {p : Nat} {a0 a1 a2 a3 : Int} {r : By} (h : AtL t p (arcsT [a0, a1, a2, a3] ++ r)) (h0 : 0 ≤ a0 ∧ a0 ≤ 1000) (h1 : 0 ≤ a1 ∧ a1 ≤ 1000) (h2 : 0 ≤ a2 ∧ a2 ≤ 1000) (h3 : 0 ≤ a3 ∧ a3 ≤ 1000) (hr : NoDig r) :
    (arcsR t p 4).ok = true ∧ (arcsR t p 4).l = [a0, a1, a2, a3] ∧ AtL t (arcsR t p 4).p r := by
  have h' : AtL t p (32 :: (numL a0 ++ (32 :: (numL a1 ++ (32 :: (numL a2 ++ (32 :: (numL a3 ++ r)))))))) := by
    simpa [arcsT] using h
  obtain ⟨k0, e0, g0⟩ := arcR_complete (s := arcsR t p 0) h' rfl h0.1 h0.2 (noDig_sp _)
  obtain ⟨k1, e1, g1⟩ := arcR_complete (s := arcsR t p 1) g0 k0 h1.1 h1.2 (noDig_sp _)
  obtain ⟨k2, e2, g2⟩ := arcR_complete (s := arcsR t p 2) g1 k1 h2.1 h2.2 (noDig_sp _)
  obtain ⟨k3, e3, g3⟩ := arcR_complete (s := arcsR t p 3) g2 k2 h3.1 h3.2 hr
  refine ⟨k3, ?_, g3⟩
  show (arcR t (arcsR t p 3)).l = _
  rw [e3]
  show (arcR t (arcsR t p 2)).l ++ _ = _
  rw [e2]
  show ((arcR t (arcsR t p 1)).l ++ _) ++ _ = _
  rw [e1]
  show (((arcR t (arcsR t p 0)).l ++ _) ++ _) ++ _ = _
  rw [e0]; rfl
/-! ### The crossings -/
abbrev semiL : By := [59, 32]
abbrev barL : By := [32, 124, 32]
def listL (ys : List Cr) : By := Lib.join (ys.map crL) semiL
theorem cr4_ok {sg : Int} {a0 a1 a2 a3 : Nat} (hs : sg = 1 ∨ sg = -1) (b0 : a0 ≤ 1000) (b1 : a1 ≤ 1000) (b2 : a2 ≤ 1000) (b3 : a3 ≤ 1000) : OkCr (cr4 [(a0 : Int), a1, a2, a3] sg) :=
  ⟨hs, fun p hp => by
    match p, hp with
    | 0, _ => exact ⟨by show (0 : Int) ≤ a0; omega, by show (a0 : Int) ≤ 1000; omega⟩
    | 1, _ => exact ⟨by show (0 : Int) ≤ a1; omega, by show (a1 : Int) ≤ 1000; omega⟩
    | 2, _ => exact ⟨by show (0 : Int) ≤ a2; omega, by show (a2 : Int) ≤ 1000; omega⟩
    | 3, _ => exact ⟨by show (0 : Int) ≤ a3; omega, by show (a3 : Int) ≤ 1000; omega⟩⟩
theorem sgn_sound {t : ByteArray} {p : Nat} {l : By} (h : AtL t p l) (hn : ¬ (takesB t p plusS = false ∧ takesB t p minusS = false)) : ∃ (sg : Int) (r : By), sgnOk t p sg ∧ (sg = 1 ∨ sg = -1) ∧ l = (if sg < 0 then 45 else 43) :: r ∧ AtL t (p + 1) r := by
  cases hp : takesB t p plusS with
  | true =>
    obtain ⟨r, e, h1⟩ := h.taken hp
    exact ⟨1, r, ⟨hn, by rw [if_pos hp]⟩, .inl rfl, e, h1⟩
  | false =>
    cases hm : takesB t p minusS with
    | true =>
      obtain ⟨r, e, h1⟩ := h.taken hm
      exact ⟨-1, r, ⟨hn, by rw [if_neg (by rw [hp]; exact Bool.false_ne_true)]⟩, .inr rfl, e, h1⟩
    | false => exact absurd ⟨hp, hm⟩ hn
theorem sgn_complete {t : ByteArray} {p : Nat} {x : Cr} {r : By} (h : AtL t p (crL x ++ r)) (hs : x.s = 1 ∨ x.s = -1) : sgnOk t p x.s ∧ AtL t (p + 1) (arcsT [x.a0, x.a1, x.a2, x.a3] ++ r) := by
  rw [crL_eq, List.cons_append] at h
  have h1 := AtL.app (l := [_]) h
  refine ⟨?_, h1⟩
  rcases hs with e | e
  · rw [e] at h ⊢
    have hp : takesB t p plusS = true := AtL.takes (s := plusS) h
    exact ⟨fun hh => (by rw [hh.1] at hp; cases hp), by rw [if_pos hp]⟩
  · rw [e] at h ⊢
    have hp : takesB t p plusS = false := AtL.not (s := plusS) (c := 45) (d := 43) h rfl (by decide)
    have hm : takesB t p minusS = true := AtL.takes (s := minusS) h
    exact ⟨fun hh => (by rw [hh.2] at hm; cases hm), by rw [if_neg (by rw [hp]; exact Bool.false_ne_true)]⟩
theorem loop_sound {t : ByteArray} : ∀ (f : Nat) (xs : List Cr) (p : Nat) (l : By), AtL t p l → (loopR t f xs p).ok = true →
    (xs = [] ∧ (loopR t f xs p).xs = [] ∧ (loopR t f xs p).p = p) ∨ ∃ ys r, ys ≠ [] ∧ (loopR t f xs p).xs = xs ++ ys ∧ (∀ x ∈ ys, OkCr x) ∧ l = listL ys ++ (barL ++ r) ∧ AtL t (loopR t f xs p).p r
  | 0, xs, p, l, h, hk => by cases hk
  | f + 1, xs, p, l, h, hk => by
    by_cases hn : takesB t p plusS = false ∧ takesB t p minusS = false
    · rw [loopR_end hn.1 hn.2] at hk ⊢
      exact .inl ⟨List.length_eq_zero_iff.1 (of_decide_eq_true hk), List.length_eq_zero_iff.1 (of_decide_eq_true hk), rfl⟩
    · right
      obtain ⟨sg, r1, hg, hsg, e1, h1⟩ := sgn_sound h hn
      rw [loopR_go hg] at hk ⊢
      by_cases hs : takesB t (arcsR t (p + 1) 4).p semiS = true
      · rw [if_pos hs] at hk ⊢
        by_cases ho : (arcsR t (p + 1) 4).ok = true
        · rw [if_pos ho] at hk ⊢
          obtain ⟨a0, a1, a2, a3, r2, el, b0, b1, b2, b3, e2, h2⟩ := arcs_sound h1 ho
          obtain ⟨r3, e3, h3⟩ := h2.taken hs
          have h3 : AtL t ((arcsR t (p + 1) 4).p + 2) r3 := h3
          have ih := loop_sound f _ _ _ h3 hk
          rw [el] at ih ⊢
          have hx := cr4_ok hsg b0 b1 b2 b3
          have ecr : crL (cr4 [(a0 : Int), a1, a2, a3] sg) = (if sg < 0 then 45 else 43) :: arcsT [(a0 : Int), a1, a2, a3] := crL_eq _
          rcases ih with ⟨e, _⟩ | ⟨ys, r, hne, exs, hok, e4, h4⟩
          · exact absurd e (by simp)
          · refine ⟨cr4 [(a0 : Int), a1, a2, a3] sg :: ys, r, by simp, by rw [exs, List.append_assoc]; rfl, fun x hx' => ?_, ?_, h4⟩
            · rcases List.mem_cons.1 hx' with rfl | h5
              · exact hx
              · exact hok x h5
            · rw [e1, e2, e3, e4]
              show _ = Lib.join (crL (cr4 [(a0 : Int), a1, a2, a3] sg) :: ys.map crL) semiL ++ (barL ++ r)
              rw [join_two _ (by simpa using hne), ecr]
              simp [listL, semiS]
        · rw [if_neg ho] at hk; cases hk
      · rw [if_neg hs] at hk ⊢
        simp only [Bool.and_eq_true] at hk
        obtain ⟨a0, a1, a2, a3, r2, el, b0, b1, b2, b3, e2, h2⟩ := arcs_sound h1 hk.1
        obtain ⟨r3, e3, h3⟩ := h2.taken hk.2
        have et : takeP t (arcsR t (p + 1) 4).p barS = (arcsR t (p + 1) 4).p + 3 := (takeP_1 hk.2 (k := 3) rfl).1
        rw [el]
        have ecr : crL (cr4 [(a0 : Int), a1, a2, a3] sg) = (if sg < 0 then 45 else 43) :: arcsT [(a0 : Int), a1, a2, a3] := crL_eq _
        refine ⟨[cr4 [(a0 : Int), a1, a2, a3] sg], r3, by simp, rfl, fun x hx' => ?_, ?_, ?_⟩
        · obtain rfl := List.mem_singleton.1 hx'; exact cr4_ok hsg b0 b1 b2 b3
        · rw [e1, e2, e3, listL, List.map_cons, List.map_nil, join_single, ecr]
          simp [barS]
        · show AtL t (if (arcsR t (p + 1) 4).ok = true then takeP t (arcsR t (p + 1) 4).p barS else (arcsR t (p + 1) 4).p) r3
          rw [if_pos hk.1, et]; exact h3
theorem cr4_self (x : Cr) : cr4 [x.a0, x.a1, x.a2, x.a3] x.s = x := rfl
theorem loop_complete {t : ByteArray} : ∀ (ys : List Cr) (f : Nat) (xs : List Cr) (p : Nat) (r : By), ys ≠ [] → (∀ x ∈ ys, OkCr x) → ys.length ≤ f → AtL t p (listL ys ++ (barL ++ r)) →
    ∃ q, loopR t f xs p = ⟨xs ++ ys, q, true⟩ ∧ AtL t q r
  | [], _, _, _, _, h, _, _, _ => absurd rfl h
  | [x], f, xs, p, r, _, hok, hf, h => by
    obtain ⟨f, rfl⟩ : ∃ g, f = g + 1 := ⟨f - 1, by simp only [List.length_singleton] at hf; omega⟩
    have hx := hok x (List.mem_cons_self ..)
    rw [listL, List.map_cons, List.map_nil, join_single] at h
    obtain ⟨hg, h1⟩ := sgn_complete h hx.1
    obtain ⟨ho, el, h2⟩ := arcs_complete h1 (hx.2 0 (by omega)) (hx.2 1 (by omega)) (hx.2 2 (by omega)) (hx.2 3 (by omega)) (noDig_sp _)
    have hs : takesB t (arcsR t (p + 1) 4).p semiS = false := AtL.not (s := semiS) (c := 32) (d := 59) h2 rfl (by decide)
    have hb : takesB t (arcsR t (p + 1) 4).p barS = true := AtL.takes (s := barS) h2
    have et : takeP t (arcsR t (p + 1) 4).p barS = (arcsR t (p + 1) 4).p + 3 := (takeP_1 hb (k := 3) rfl).1
    refine ⟨_, ?_, AtL.app (l := barL) h2⟩
    rw [loopR_go hg, if_neg (by rw [hs]; exact Bool.false_ne_true), if_pos ho, ho, hb, et, el]
    rfl
  | x :: y :: ys, f, xs, p, r, _, hok, hf, h => by
    obtain ⟨f, rfl⟩ : ∃ g, f = g + 1 := ⟨f - 1, by simp only [List.length_cons] at hf; omega⟩
    have hx := hok x (List.mem_cons_self ..)
    rw [listL, List.map_cons, join_two _ (by simp), List.append_assoc, List.append_assoc] at h
    obtain ⟨hg, h1⟩ := sgn_complete h hx.1
    obtain ⟨ho, el, h2⟩ := arcs_complete h1 (hx.2 0 (by omega)) (hx.2 1 (by omega)) (hx.2 2 (by omega)) (hx.2 3 (by omega)) (noDig_semi _)
    have hs : takesB t (arcsR t (p + 1) 4).p semiS = true := AtL.takes (s := semiS) h2
    obtain ⟨q, e, hq⟩ := loop_complete (y :: ys) f (xs ++ [x]) ((arcsR t (p + 1) 4).p + 2) r (by simp) (fun z hz => hok z (List.mem_cons_of_mem _ hz)) (by simp only [List.length_cons] at hf ⊢; omega) (AtL.app (l := semiL) h2)
    refine ⟨q, ?_, hq⟩
    rw [loopR_go hg, if_pos hs, if_pos ho, el]
    show loopR t f (xs ++ [x]) _ = _
    rw [e, List.append_assoc]; rfl
/-! ### The whole -/
/-- t is the text of d. -/
def TextIs (t : ByteArray) (d : Dia) : Prop := (∀ x ∈ d.cross, OkCr x) ∧ 0 ≤ d.loops ∧ d.loops ≤ 1000 ∧ t.data.toList = (if d.cross = [] then [] else listL d.cross ++ barL) ++ numL d.loops
theorem read_sound {t : ByteArray} {d : Dia} (h : readR t = some d) : TextIs t d := by
  have h0 : AtL t 0 t.data.toList := ⟨Nat.zero_le _, rfl⟩
  rw [readR] at h
  split at h
  · rename_i hc
    injection h with h
    subst h
    rcases loop_sound _ _ _ _ h0 hc.1 with ⟨_, e1, e2⟩ | ⟨ys, r, hne, e1, hok, e2, h1⟩
    · rw [e2] at hc
      obtain ⟨r2, e3, h2, hb⟩ := h0.numed hc.2.1
      rw [hc.2.2] at h2
      have : r2 = [] := by have := h2.len; exact List.length_eq_zero_iff.1 (by omega)
      rw [e1, e2]
      refine ⟨fun x hx => absurd hx List.not_mem_nil, by simp only; omega, by simp only; omega, ?_⟩
      rw [if_pos rfl, List.nil_append, e3, this, List.append_nil]
    · obtain ⟨r2, e3, h2, hb⟩ := h1.numed hc.2.1
      rw [hc.2.2] at h2
      have : r2 = [] := by have := h2.len; exact List.length_eq_zero_iff.1 (by omega)
      rw [List.nil_append] at e1
      rw [e1]
      refine ⟨hok, by simp only; omega, by simp only; omega, ?_⟩
      rw [if_neg hne, e2, e3, this, List.append_nil, List.append_assoc]
  · cases h
theorem read_complete {t : ByteArray} {d : Dia} (h : TextIs t d) : readR t = some d := by
  obtain ⟨hok, h0, h1, e⟩ := h
  obtain ⟨xs, v⟩ := d
  simp only at hok h0 h1 e
  by_cases hx : xs = []
  · subst hx
    rw [if_pos rfl, List.nil_append] at e
    have ha : AtL t 0 (numL v ++ []) := ⟨Nat.zero_le _, by rw [List.append_nil]; exact e⟩
    obtain ⟨ep, hk, h2⟩ := ha.num h0 h1 noDig_nil
    have hd : ∃ c m, numL v = c :: m ∧ 48 ≤ c.toNat ∧ c.toNat ≤ 57 := by
      cases hd : numL v with
      | nil => exact absurd hd (decDigits_ne _)
      | cons c m => exact ⟨c, m, rfl, decDigits_dig v.toNat c (by rw [show Lib.decDigits v.toNat = c :: m from hd]; exact List.mem_cons_self ..)⟩
    obtain ⟨c, m, ec, hc⟩ := hd
    rw [ec] at ha
    have hp : takesB t 0 plusS = false := AtL.not (s := plusS) (c := c) (d := 43) ha rfl (fun e => by rw [e] at hc; exact absurd hc (by decide))
    have hm : takesB t 0 minusS = false := AtL.not (s := minusS) (c := c) (d := 45) ha rfl (fun e => by rw [e] at hc; exact absurd hc (by decide))
    have hl : loopR t (t.size + 1) [] 0 = ⟨[], 0, true⟩ := loopR_end hp hm
    rw [readR, hl]
    simp only
    rw [if_pos ⟨trivial, hk, by rw [ep]; exact h2.nil⟩, ep]
    simp only
    rw [show ((v.toNat : Nat) : Int) = v by omega]
  · rw [if_neg hx] at e
    have ha : AtL t 0 (listL xs ++ (barL ++ numL v)) := ⟨Nat.zero_le _, by rw [← List.append_assoc]; exact e⟩
    have hlen : xs.length ≤ t.size + 1 := by
      have h2 := ha.len
      have h3 : xs.length ≤ (listL xs).length := by
        clear h2 ha e hx hok
        induction xs with
        | nil => exact Nat.zero_le _
        | cons x r ih =>
          cases r with
          | nil => rw [listL, List.map_cons, List.map_nil, join_single, crL_eq]; simp
          | cons y r =>
            rw [listL, List.map_cons, join_two _ (by simp)]
            have : (y :: r).length ≤ (Lib.join ((y :: r).map crL) semiL).length := ih
            simp only [List.length_cons, List.length_append] at this ⊢
            omega
      simp only [List.length_append] at h2
      omega
    obtain ⟨q, hl, h2⟩ := loop_complete xs (t.size + 1) [] 0 (numL v) hx hok hlen ha
    have h2' : AtL t q (numL v ++ []) := by rw [List.append_nil]; exact h2
    obtain ⟨ep, hk, h3⟩ := h2'.num h0 h1 noDig_nil
    rw [readR, hl]
    simp only
    rw [if_pos ⟨trivial, hk, by rw [ep]; exact h3.nil⟩, ep, List.nil_append]
    simp only
    rw [show ((v.toNat : Nat) : Int) = v by omega]
end Go.V
/- Texts of diagrams: what is read is what was written. -/
namespace Go.V
open Go
def cutA (t : ByteArray) : ByteArray := ⟨(Lib.cut t.data.toList barS.data.toList).1.toArray⟩
def cutB (t : ByteArray) : ByteArray := ⟨(Lib.cut t.data.toList barS.data.toList).2.1.toArray⟩
def cutF (t : ByteArray) : Bool := (Lib.cut t.data.toList barS.data.toList).2.2
abbrev psOf (t : ByteArray) : List ByteArray := piecesB (cutA t) semiS
theorem free_join {c : UInt8} {sep : By} : ∀ {l : List By}, (∀ x ∈ l, c ∉ x) → c ∉ sep → c ∉ Lib.join l sep
  | [], _, _ => List.not_mem_nil
  | [x], h, _ => by rw [join_single]; exact h x (List.mem_cons_self ..)
  | x :: y :: r, h, hs => by
    rw [join_two x (by simp)]
    intro hc
    rcases List.mem_append.1 hc with h1 | h1
    · exact h x (List.mem_cons_self ..) h1
    · rcases List.mem_append.1 h1 with h2 | h2
      · exact hs h2
      · exact free_join (fun z hz => h z (List.mem_cons_of_mem _ hz)) hs h2
theorem crL_free {c : UInt8} (x : Cr) (h1 : c ≠ 43) (h2 : c ≠ 45) (h3 : c ≠ 32) (h4 : c.toNat < 48 ∨ 57 < c.toNat) : c ∉ crL x := by
  have hn : ∀ n : Int, c ∉ numL n := fun n => by rw [← numS_list]; exact num_free h4
  rw [crL_eq]
  intro hc
  rcases List.mem_cons.1 hc with h | h
  · split at h <;> first | exact h2 h | exact h1 h
  · simp only [arcsT, List.flatMap_cons, List.flatMap_nil, List.append_nil, List.mem_append, List.mem_cons] at h
    rcases h with (h | h) | (h | h) | (h | h) | (h | h) <;> first | exact h3 h | exact hn _ h
theorem barS_list : barS.data.toList = barL := rfl
theorem cut_num {t : ByteArray} {v : Int} (h : t.data.toList = numL v) : cutF t = false := by
  have hn : (124 : UInt8) ∉ numL v := by rw [← numS_list]; exact num_free (.inr (by decide))
  rw [cutF, Lib.cut, h, barS_list, index_miss (j := 1) (c := 124) rfl hn]
  rfl
theorem cut_list {t : ByteArray} {xs : List Cr} {v : Int} (h : t.data.toList = (listL xs ++ barL) ++ numL v) : cutF t = true ∧ (cutA t).data.toList = listL xs ∧ (cutB t).data.toList = numL v := by
  have hn : (124 : UInt8) ∉ listL xs := free_join (fun x hx => by obtain ⟨y, _, rfl⟩ := List.mem_map.1 hx; exact crL_free y (by decide) (by decide) (by decide) (.inr (by decide))) (by decide)
  have hi : Lib.index t.data.toList barL = (listL xs).length := by
    rw [h, List.append_assoc]
    exact index_sep (j := 1) (c := 124) rfl hn (fun i hi => by have e : i = 0 := (by omega); subst e; decide)
  have hc : Lib.cut t.data.toList barL = (listL xs, numL v, true) := by
    rw [Lib.cut, if_pos (by rw [hi]; omega), hi, h]
    simp only [Int.toNat_natCast]
    rw [List.append_assoc, List.take_left, ← List.drop_drop, List.drop_left, List.drop_left]
  refine ⟨by rw [cutF, barS_list, hc], by rw [cutA, barS_list, hc], by rw [cutB, barS_list, hc]⟩
theorem cut_found {t : ByteArray} (h : cutF t = true) : t.data.toList = ((cutA t).data.toList ++ barL) ++ (cutB t).data.toList := by
  rw [cutF, Lib.cut] at h
  split at h
  · rename_i h0
    rcases Lib.index_spec t.data.toList barS.data.toList with ⟨h1, _⟩ | ⟨i, h1, h2, h3, _⟩
    · omega
    · obtain ⟨r, hr⟩ := occ_pre h3
      have hc : Lib.cut t.data.toList barS.data.toList = (t.data.toList.take i, r, true) := by
        rw [Lib.cut, if_pos h0, h1]
        simp only [Int.toNat_natCast]
        rw [← List.drop_drop, hr, List.drop_left]
      rw [cutA, cutB, hc]
      simp only
      rw [List.append_assoc, ← barS_list, ← hr, List.take_append_drop]
  · cases h
theorem parse_F_ok {t : ByteArray} {v : Int} (_ : cutF t = false) (hv : Num t v) : readR t = some ⟨[], v⟩ := read_complete ⟨fun x hx => absurd hx List.not_mem_nil, hv.1, hv.2.1, by rw [if_pos rfl, List.nil_append, hv.2.2, numS_list]⟩
theorem num_of {s : ByteArray} {v : Int} (h0 : 0 ≤ v) (h1 : v ≤ 1000) (h : s.data.toList = numL v) : Num s v := ⟨h0, h1, ba_ext (by rw [h, numS_list])⟩
theorem parse_F_bad {t : ByteArray} (h : cutF t = false) (hv : ∀ v, ¬ Num t v) : readR t = none := by
  cases hr : readR t with
  | none => rfl
  | some d =>
    obtain ⟨_, h0, h1, e⟩ := read_sound hr
    by_cases hx : d.cross = []
    · rw [if_pos hx, List.nil_append] at e
      exact absurd (num_of h0 h1 e) (hv _)
    · rw [if_neg hx] at e
      rw [(cut_list e).1] at h; cases h
theorem psOf_join (t : ByteArray) : (cutA t).data.toList = Lib.join ((psOf t).map (·.data.toList)) semiL := (join_piecesB (cutA t) semiS).symm
theorem ps_ne (t : ByteArray) : psOf t ≠ [] := fun h => by
  have := Lib.splitB_all semiS (by decide) 0 _ (cutA t) rfl
  rw [show Lib.splitB semiS 0 (Lib.countB (cutA t) semiS) (cutA t) = [] from h] at this
  cases this
theorem map_data (xs : List Cr) : (xs.map crS).map (·.data.toList) = xs.map crL := by rw [List.map_map]; rfl
theorem parse_T_ok {t : ByteArray} {v : Int} {xs : List Cr} (h : cutF t = true) (hx : psOf t = xs.map crS) (ho : ∀ x ∈ xs, OkCr x) (hv : Num (cutB t) v) : readR t = some ⟨xs, v⟩ := by
  have hne : xs ≠ [] := fun e => by rw [e] at hx; exact ps_ne t hx
  refine read_complete ⟨ho, hv.1, hv.2.1, ?_⟩
  rw [if_neg hne, cut_found h, psOf_join, hx, map_data, show (cutB t).data.toList = numL v by rw [hv.2.2, numS_list]]
  rfl
theorem list_pieces {t : ByteArray} {xs : List Cr} (hne : xs ≠ []) (h : (cutA t).data.toList = listL xs) : psOf t = xs.map crS := by
  refine piecesB_join (j := 0) (c := 59) rfl (fun i h => by omega) (by simpa using hne) (fun p hp => ?_) (by rw [h, map_data]; rfl)
  obtain ⟨x, _, rfl⟩ := List.mem_map.1 hp
  exact crL_free x (by decide) (by decide) (by decide) (.inr (by decide))
theorem read_T {t : ByteArray} {d : Dia} (h : cutF t = true) (hr : readR t = some d) : (∀ x ∈ d.cross, OkCr x) ∧ psOf t = d.cross.map crS ∧ Num (cutB t) d.loops := by
  obtain ⟨hok, h0, h1, e⟩ := read_sound hr
  by_cases hx : d.cross = []
  · rw [if_pos hx, List.nil_append] at e
    rw [cut_num e] at h; cases h
  · rw [if_neg hx] at e
    have hc := cut_list e
    exact ⟨hok, list_pieces hx hc.2.1, num_of h0 h1 hc.2.2⟩
theorem parse_T_badc {t p : ByteArray} {c : Nat} (h : cutF t = true) (hp : (psOf t)[c]? = some p) (hx : ∀ x, ¬ Cross p x) : readR t = none := by
  cases hr : readR t with
  | none => rfl
  | some d =>
    obtain ⟨hok, he, _⟩ := read_T h hr
    rw [he, List.getElem?_map] at hp
    cases hd : d.cross[c]? with
    | none => rw [hd] at hp; cases hp
    | some x =>
      rw [hd] at hp
      simp only [Option.map_some, Option.some.injEq] at hp
      have := hok x (List.mem_of_getElem? hd)
      exact absurd ⟨this.1, this.2, hp.symm⟩ (hx x)
theorem parse_T_badn {t : ByteArray} (h : cutF t = true) (hv : ∀ v, ¬ Num (cutB t) v) : readR t = none := by
  cases hr : readR t with
  | none => rfl
  | some d => exact absurd (read_T h hr).2.2 (hv _)
theorem cutA_size (t : ByteArray) : (cutA t).size ≤ t.size := by
  show (Lib.cut t.data.toList barS.data.toList).1.toArray.size ≤ t.data.size
  rw [List.size_toArray, ← Array.length_toList, Lib.cut]
  split
  · rw [List.length_take]; exact Nat.min_le_right _ _
  · exact Nat.le_refl _
theorem cutB_size (t : ByteArray) : (cutB t).size ≤ t.size := by
  show (Lib.cut t.data.toList barS.data.toList).2.1.toArray.size ≤ t.data.size
  rw [List.size_toArray, ← Array.length_toList, Lib.cut]
  split
  · simp
  · simp
theorem ps_length (t : ByteArray) : (psOf t).length ≤ t.size + 1 := by
  have h1 := Lib.splitB_all semiS (by decide) 0 _ (cutA t) rfl
  have h2 := Lib.countB_le semiS (by decide) _ (cutA t) (Nat.le_refl _)
  have h3 := cutA_size t
  show (Lib.splitB semiS 0 (Lib.countB (cutA t) semiS) (cutA t)).length ≤ _
  omega
theorem ps_size {t p : ByteArray} {c : Nat} (h : (psOf t)[c]? = some p) : p.size ≤ t.size := Nat.le_trans (mem_piece_size (List.mem_of_getElem? h)) (cutA_size t)
theorem nth_ps {ps : List ByteArray} {c : Nat} {p : ByteArray} (h : ps[c]? = some p) : nth (ps.map Value.string).toArray.toList (0 + c * 1) = some (.string p) := by
  rw [nth_eq]; simp [h]
/-- The crossings so far. -/
def CrTo (ps : List ByteArray) (c : Nat) (xs : List Cr) : Prop := xs.length = c ∧ ps.take c = xs.map crS ∧ ∀ x ∈ xs, OkCr x
theorem CrTo.start (ps : List ByteArray) : CrTo ps 0 [] := ⟨rfl, rfl, fun _ hx => absurd hx List.not_mem_nil⟩
theorem CrTo.snoc {ps : List ByteArray} {c : Nat} {xs : List Cr} {p : ByteArray} {x : Cr} (h : CrTo ps c xs) (hp : ps[c]? = some p) (hx : Cross p x) : CrTo ps (c + 1) (xs ++ [x]) :=
  ⟨by rw [List.length_append, h.1]; rfl, by rw [List.take_add_one, hp, h.2.1, hx.2.2]; simp, fun y hy => by
    rcases List.mem_append.1 hy with h1 | h1
    · exact h.2.2 y h1
    · obtain rfl := List.mem_singleton.1 h1; exact ⟨hx.1, hx.2.1⟩⟩
theorem CrTo.all {ps : List ByteArray} {xs : List Cr} (h : CrTo ps ps.length xs) : xs.length = ps.length ∧ ps = xs.map crS ∧ ∀ x ∈ xs, OkCr x := ⟨h.1, by have := h.2.1; rwa [List.take_length] at this, h.2.2⟩
theorem Num.in64 {s : ByteArray} {v : Int} (h : Num s v) : In64 v := by have h0 := h.1; have h1 := h.2.1; constructor <;> omega
theorem errR_2n {t : ByteArray} (h : ¬ 200000 < t.size) (hb : readR t = none) : errR t = 4 ∧ resR t = nilD := by rw [errR, resR, if_neg h, if_neg h, hb]; exact ⟨rfl, rfl⟩
theorem OkCr.wf {x : Cr} (h : OkCr x) : x.Wf := by
  have h0 := h.2 0 (by omega); have h1 := h.2 1 (by omega); have h2 := h.2 2 (by omega); have h3 := h.2 3 (by omega)
  simp only [Cr.arc] at h0 h1 h2 h3
  rcases h.1 with hs | hs <;> constructor <;> simp only [In64] <;> omega
end Go.V
/- The program reads a text. -/
namespace Go.Proofs
open Go Go.V
set_option maxRecDepth 20000
theorem dg_Parse (t : ByteArray) (w : World) (he : Env w) : Gives Tryz.prog 9 #[.string t] w Nil (fun q : Option Addr × Nat => OKB q (resR t).cross.length) (fun q => .tuple #[diaV q.1 q.2 (resR t), iv (errR t)]) (fun q => [ownD q (resR t)]) := by
  refine fn_of_runD (S := Nil) (args := [.string t]) (n := 49) (L := []) Tryz.func9 rfl Tryz.ntmps9 (Nat.le_of_ble_eq_true rfl) (Sym.nil _ _) ?_
  change RunC _ _ _ [(0, _)] _
  refine RunC.seq ?_
  refine RunC.region ?_
  refine RunL.grows rfl rfl rfl (Grows.alloc rfl Tryz.zeroValue24) (fun b2 _ => ?_)
  refine RunL.own_nil 62 5 ?_
  refine RunL.grows rfl rfl rfl (Grows.alloc rfl Tryz.zeroValue26) (fun b3 _ => ?_)
  refine RunL.nil ?_
  refine Ends.then ?_
  refine RunC.seq ?_
  refine RunC.seq ?_
  refine RunC.region ?_
  refine RunL.still rfl rfl rfl (Still.move rfl rfl) ?_
  refine RunL.still rfl rfl rfl (Still.lenStr rfl rfl Tryz.underlying9) ?_
  refine RunL.still rfl rfl rfl (Still.gtr rfl rfl rfl) ?_
  refine RunL.nil ?_
  refine Ends.then ?_
  refine RunC.cond rfl (fun h12 => ?_) (fun h12 => ?_)
  · have h12 := of_decide_eq_true h12
    refine RunC.seq ?_
    refine RunC.region ?_
    refine RunL.still rfl rfl rfl (Still.build_0 (.agg #[.slice none 0 0, .int .i64 0]) rfl (fun _ => by kernel_rfl)) ?_
    refine RunL.does0 rfl rfl (Does.store rfl rfl rfl (i := 2) rfl Tryz.sizeOf24 rfl (rfl) rfl) (fun _ _ => ?_)
    refine RunL.does0 rfl rfl (Does.store1 rfl rfl rfl (i := 0) rfl Tryz.sizeOf26 (rfl) (rfl)) (fun _ _ => ?_)
    refine RunL.nil ?_
    refine Ends.then ?_
    refine RunC.ret ?_
    refine Ends.then_ret ?_
    have E := errR_1 (t := t) (by omega)
    refine Ends.leaveD0 (.inl rfl) rfl (fun _ _ ok => results2 Tryz.results9 (Holds.cell rfl (fun _ hs => load_cells (vs := [_, _]) Tryz.isAgg24 Tryz.sizeOf24 rfl (cells_nth (hs.at (i := 2) rfl) ⟨rfl, ⟨rfl, trivial⟩⟩))) (Holds.cell rfl (fun _ hs => load_one Tryz.isAgg26 (cell_nth (hs.at (i := 0) rfl) rfl))) ok) (fun w1 hs => ?_)
    have hs := hs.own_nil 62 5
    exact Ret.intro (none, 0) (by rw [E.2]; exact fun h => absurd h (Nat.lt_irrefl 0)) (by rw [E.1, E.2]; rfl) (HSub.pick 0 (by rw [E.2]; rfl) (HSub.nil _)) hs
  · have h12 := of_decide_eq_false h12
    refine RunC.skip ?_
    refine Ends.then ?_
    refine RunC.seq ?_
    refine RunC.region ?_
    refine RunL.still rfl rfl rfl (Still.makeFunc (vs := #[_, _]) rfl rfl) ?_
    refine RunL.defer rfl rfl rfl rfl rfl ?_
    refine RunL.nil ?_
    refine Ends.then ?_
    refine RunC.seq ?_
    refine RunC.region ?_
    refine RunL.still rfl rfl rfl (Still.move rfl rfl) ?_
    refine RunL.grows rfl rfl rfl (Grows.call (vs := #[_, _]) rfl rfl Tryz.call37 (fun w hs => z_Cut t barS w (he.sym hs) (by omega))) (fun _ _ => ?_)
    refine RunL.still rfl rfl rfl (Still.move rfl rfl) ?_
    refine RunL.still rfl rfl rfl (Still.extractN rfl rfl rfl) ?_
    refine RunL.still rfl rfl rfl (Still.extractN rfl rfl rfl) ?_
    refine RunL.still rfl rfl rfl (Still.extractN rfl rfl rfl) ?_
    refine RunL.still rfl rfl rfl (Still.assign rfl rfl) ?_
    refine RunL.still rfl rfl rfl (Still.assign rfl rfl) ?_
    refine RunL.still rfl rfl rfl (Still.assign rfl rfl) ?_
    refine RunL.nil ?_
    refine Ends.then ?_
    refine RunC.seq ?_
    refine RunC.seq ?_
    refine RunC.region ?_
    refine RunL.still rfl rfl rfl (Still.move rfl rfl) ?_
    refine RunL.still rfl rfl rfl (Still.not rfl rfl) ?_
    refine RunL.nil ?_
    refine Ends.then ?_
    refine RunC.cond rfl (fun h22 => ?_) (fun h22 => ?_)
    · have hcf : cutF t = false := bnot_t h22
      refine RunC.region ?_
      refine RunL.still rfl rfl rfl (Still.move rfl rfl) ?_
      refine RunL.still rfl rfl rfl (Still.assign rfl rfl) ?_
      refine RunL.nil ?_
      refine Ends.then ?_
      refine RunC.seq ?_
      refine RunC.region ?_
      refine RunL.still rfl rfl rfl (Still.move rfl rfl) ?_
      by_cases hn : ∃ v, Num t v
      · obtain ⟨v, hv⟩ := hn
        have hrd := parse_F_ok hcf hv
        have hvb : 0 < ([] : List Cr).length → (none : Option Addr) = some ⟨0, 0, none⟩ := fun h => absurd h (Nat.lt_irrefl 0)
        refine RunL.grows rfl rfl rfl (Grows.call (vs := #[_]) rfl rfl Tryz.call40 (fun w hs => dg_number t v w (he.sym hs) hv)) (fun _ _ => ?_)
        refine RunL.still rfl rfl rfl (Still.fieldAddrL (off := 0) (off' := 1) rfl rfl Tryz.underlying24 rfl Tryz.sizeOf3 rfl) ?_
        refine RunL.does0 rfl rfl (Does.store1 rfl rfl rfl (i := 2) rfl Tryz.sizeOf3 (rfl) (rfl)) (fun _ _ => ?_)
        refine RunL.nil ?_
        refine Ends.then ?_
        refine RunC.seq ?_
        refine RunC.seq ?_
        refine RunC.region ?_
        refine RunL.still rfl rfl rfl (Still.loads rfl rfl Tryz.isAgg24 Tryz.sizeOf24 (vs := [_, _]) rfl (fun _ hs => cells_nth (hs.at (i := 2) rfl) ⟨rfl, ⟨rfl, trivial⟩⟩)) ?_
        refine RunL.grows rfl rfl rfl (Grows.call (vs := #[_]) rfl rfl Tryz.call20 (fun w hs => dg_Check none ⟨0, 0, none⟩ 0 ⟨[], v⟩ w (DiaAt.of_cells (d := ⟨[], v⟩) hvb (fun j u hu => by cases hu) (by show (0 : Nat) ≤ _; omega) (fun x hx => absurd hx List.not_mem_nil) hv.in64))) (fun _ _ => ?_)
        refine RunL.still rfl rfl rfl (Still.assign rfl rfl) ?_
        refine RunL.nil ?_
        refine Ends.then ?_
        refine RunC.seq ?_
        refine RunC.region ?_
        refine RunL.still rfl rfl rfl (Still.move rfl rfl) ?_
        refine RunL.still rfl rfl rfl (Still.neq rfl rfl rfl) ?_
        refine RunL.nil ?_
        refine Ends.then ?_
        refine RunC.cond rfl (fun h45 => ?_) (fun h45 => ?_)
        · have h45 := of_decide_eq_true h45
          refine RunC.seq ?_
          refine RunC.region ?_
          refine RunL.still rfl rfl rfl (Still.build_0 (.agg #[.slice none 0 0, .int .i64 0]) rfl (fun _ => by kernel_rfl)) ?_
          refine RunL.still rfl rfl rfl (Still.move rfl rfl) ?_
          refine RunL.does0 rfl rfl (Does.store rfl rfl rfl (i := 2) rfl Tryz.sizeOf24 rfl (rfl) rfl) (fun _ _ => ?_)
          refine RunL.does0 rfl rfl (Does.store1 rfl rfl rfl (i := 0) rfl Tryz.sizeOf26 (rfl) (rfl)) (fun _ _ => ?_)
          refine RunL.nil ?_
          refine Ends.then ?_
          refine RunC.ret ?_
          refine Ends.then_ret ?_
          have E := errR_3 (t := t) (by omega) hrd h45
          refine Ends.leaveD (K := [_, _]) (Rr := [_]) (H := [_, _]) (.inl (.inl rfl)) rfl (fun w => by simp [invoke, Tryz.call36]) rfl (HSub.pick 2 rfl (HSub.pick 0 rfl (HSub.pick 0 rfl (HSub.nil _)))) (fun _ h => h) (fun w hs => parse_ret b2 b3 _ _ _ w hs.left) (fun _ _ ok => results2 Tryz.results9 (Holds.cell rfl (fun _ hs => load_cells (vs := [_, _]) Tryz.isAgg24 Tryz.sizeOf24 rfl (cells_nth (hs.at (i := 0) rfl) ⟨rfl, ⟨rfl, trivial⟩⟩))) (Holds.cell rfl (fun _ hs => load_one Tryz.isAgg26 (cell_nth (hs.at (i := 1) rfl) rfl))) ok) (fun w2 hs => ?_)
          have hs := hs.own_nil 62 5
          exact Ret.intro (none, 0) (by rw [E.2]; exact fun h => absurd h (Nat.lt_irrefl 0)) (by rw [E.1, E.2]; rfl) (HSub.pick 0 (by rw [E.2]; rfl) (HSub.nil _)) hs
        · have h45 := of_decide_eq_false h45
          refine RunC.skip ?_
          refine Ends.then ?_
          refine RunC.seq ?_
          refine RunC.region ?_
          refine RunL.still rfl rfl rfl (Still.loads rfl rfl Tryz.isAgg24 Tryz.sizeOf24 (vs := [_, _]) rfl (fun _ hs => cells_nth (hs.at (i := 2) rfl) ⟨rfl, ⟨rfl, trivial⟩⟩)) ?_
          refine RunL.does0 rfl rfl (Does.store rfl rfl rfl (i := 2) rfl Tryz.sizeOf24 rfl (rfl) rfl) (fun _ _ => ?_)
          refine RunL.does0 rfl rfl (Does.store1 rfl rfl rfl (i := 0) rfl Tryz.sizeOf26 (rfl) (rfl)) (fun _ _ => ?_)
          refine RunL.nil ?_
          refine Ends.then ?_
          refine RunC.ret ?_
          have E := errR_4 (t := t) (by omega) hrd (Decidable.not_not.1 h45)
          refine Ends.leaveD (K := [_, _]) (Rr := [_]) (H := [_, _]) (.inl (.inl rfl)) rfl (fun w => by simp [invoke, Tryz.call36]) rfl (HSub.pick 2 rfl (HSub.pick 0 rfl (HSub.pick 0 rfl (HSub.nil _)))) (fun _ h => h) (fun w hs => parse_ret b2 b3 _ _ _ w hs.left) (fun _ _ ok => results2 Tryz.results9 (Holds.cell rfl (fun _ hs => load_cells (vs := [_, _]) Tryz.isAgg24 Tryz.sizeOf24 rfl (cells_nth (hs.at (i := 0) rfl) ⟨rfl, ⟨rfl, trivial⟩⟩))) (Holds.cell rfl (fun _ hs => load_one Tryz.isAgg26 (cell_nth (hs.at (i := 1) rfl) rfl))) ok) (fun w3 hs => ?_)
          exact Ret.intro (none, 0) (by rw [E.2]; exact hvb) (by rw [E.1, E.2]; try rfl) (HSub.pick 2 (by rw [E.2]; rfl) (HSub.nil _)) hs
      · have hno := parse_F_bad hcf (fun v hv => hn ⟨v, hv⟩)
        refine RunL.dies (vs := #[_]) (u := noTextV) rfl rfl rfl Tryz.call40 (fun w hs => dg_number_bad t w (he.sym hs) (by have := cutB_size t; omega) (fun v hv => hn ⟨v, hv⟩)) ?_
        refine Ends.then_panic ?_
        have E := errR_2n (t := t) (by omega) hno
        refine Ends.leaveD (K := [_, _]) (Rr := [_]) (H := [_, _]) (.inr ⟨_, rfl⟩) rfl (fun w => by simp [invoke, Tryz.call36]) rfl (HSub.pick 2 rfl (HSub.pick 0 rfl (HSub.pick 0 rfl (HSub.nil _)))) (fun _ h => h) (fun w hs => parse_rec b2 b3 _ _ _ w hs.left) (fun _ _ ok => results2 Tryz.results9 (Holds.cell rfl (fun _ hs => load_cells (vs := [_, _]) Tryz.isAgg24 Tryz.sizeOf24 rfl (cells_nth (hs.at (i := 0) rfl) ⟨rfl, ⟨rfl, trivial⟩⟩))) (Holds.cell rfl (fun _ hs => load_one Tryz.isAgg26 (cell_nth (hs.at (i := 1) rfl) rfl))) ok) (fun w4 hs => ?_)
        have hs := hs.own_nil 62 5
        exact Ret.intro (none, 0) (by rw [E.2]; exact fun h => absurd h (Nat.lt_irrefl 0)) (by rw [E.1, E.2]; rfl) (HSub.pick 0 (by rw [E.2]; rfl) (HSub.nil _)) hs
    · have hcf : cutF t = true := bnot_f h22
      have hpl : (piecesB (cutA t) semiS).length ≤ t.size + 1 := ps_length t
      refine RunC.seq ?_
      refine RunC.region ?_
      refine RunL.still rfl rfl rfl (Still.move rfl rfl) ?_
      refine RunL.grows rfl rfl rfl (Grows.call (vs := #[_, _]) rfl rfl Tryz.call38 (fun w hs => z_Split (cutA t) semiS w (he.sym hs) (by have := cutA_size t; omega) (by decide))) (fun b25 _ => ?_)
      refine RunL.still rfl rfl rfl (Still.lenSlice rfl rfl Tryz.underlying59) ?_
      refine RunL.still rfl rfl rfl (Still.move rfl rfl) ?_
      refine RunL.nil ?_
      refine Ends.then ?_
      refine RunC.block ?_
      refine RunC.loop2 (γ := Value × Nat × List Cr) (keep := [(2, _), (3, _), (5, _), (25, _), (26, _)]) (hkeep := [_, _]) (fun (v, c, xs) => c ≤ (piecesB (cutA t) semiS).length ∧ CrTo (piecesB (cutA t) semiS) c xs) (fun (v, c, xs) => (piecesB (cutA t) semiS).length - c) (fun (v, c, xs) => [(27, iv c)]) (fun (v, c, xs) => [HL.obj b2 (.cells #[v, iv 0] 24 (0, 0)), HL.own 62 5 v xs.length (xs.flatMap encCr)]) (.slice none 0 0, 0, []) ⟨by omega, CrTo.start _⟩ (Fr.Sub.cons rfl (Fr.Sub.nil _)) (Fr.Sub.cons rfl (Fr.Sub.cons rfl (Fr.Sub.cons rfl (Fr.Sub.cons rfl (Fr.Sub.cons rfl (Fr.Sub.nil _)))))) (HSub.pick 3 rfl (HSub.pick 2 rfl (HSub.pick 0 rfl (HSub.pick 0 rfl (HSub.nil _))))) ?_
      rintro ⟨v, c, xs⟩ ⟨hc, hcr⟩
      have hc : c ≤ (piecesB (cutA t) semiS).length := hc
      have hcl : xs.length = c := hcr.1
      refine RunC.seq ?_
      refine RunC.region ?_
      refine RunL.still rfl rfl rfl (Still.lss rfl rfl rfl) ?_
      refine RunL.nil ?_
      refine Ends.then ?_
      refine RunC.seq ?_
      refine RunC.cond rfl (fun h28 => ?_) (fun h28 => ?_)
      · have h28 := of_decide_eq_true h28
        obtain ⟨p, hp⟩ := get_of_lt (l := piecesB (cutA t) semiS) (i := c) (by omega)
        have hpz := ps_size hp
        refine RunC.skip ?_
        refine Ends.then ?_
        refine RunC.seq ?_
        refine RunC.block ?_
        refine RunC.seq ?_
        refine RunC.region ?_
        refine RunL.still rfl rfl rfl (Still.indexSliceNL rfl rfl rfl Tryz.underlying59 Tryz.sizeOf9 (by omega)) ?_
        refine RunL.still rfl rfl rfl (Still.load (v := .string p) rfl rfl Tryz.isAgg9 (fun _ hs => cell_nth (hs.at (i := 2) rfl) (nth_ps hp))) ?_
        refine RunL.still rfl rfl rfl (Still.assign rfl rfl) ?_
        refine RunL.nil ?_
        refine Ends.then ?_
        by_cases hx : ∃ x, Cross p x
        · obtain ⟨x, hx⟩ := hx
          refine RunC.draw 5 (.still 0 (.still 1 (.still 2 (.one 3 (.one 4 .done))))) (by kernel_rfl) (by kernel_rfl) ?_
          refine RunG.still rfl rfl rfl rfl (Still.fieldAddrL (off := 0) (off' := 0) rfl rfl Tryz.underlying24 rfl Tryz.sizeOf22 rfl) ?_
          refine RunG.still rfl rfl rfl rfl (Still.load rfl rfl Tryz.isAgg22 (fun _ hs => cell_nth (hs.at (i := 0) rfl) rfl)) ?_
          refine RunG.still rfl rfl rfl rfl (Still.move rfl rfl) ?_
          refine RunG.grows rfl rfl rfl rfl (Grows.call (vs := #[_]) rfl rfl Tryz.call39 (fun w hs => dg_crossing_ok p x w (he.sym hs) (by omega) hx)) (fun _ _ => ?_)
          refine RunG.grows rfl rfl rfl rfl (Grows.slice1 rfl rfl Tryz.underlying22 Tryz.sizeOf62 rfl Tryz.zeroValue62 (by decide)) (fun b35 _ => ?_)
          refine RunG.done ?_
          show RunL _ _ _ [_, _, _] _ _
          refine RunL.does rfl rfl rfl (Does.appendTo (n' := (xs.length + 1)) (xs' := ((xs ++ [x]).flatMap encCr)) (news := [_, _, _, _, _]) rfl rfl rfl rfl (i := 2) rfl Tryz.underlying22 (by kernel_rfl : (_ : Option _) = some (some (.agg #[.int .i64 0, .int .i64 0, .int .i64 0, .int .i64 0, .int .i64 0]), 5, 40)) rfl rfl (fun _ hs => cells_nth (hs.at (i := 0) rfl) ⟨rfl, ⟨rfl, ⟨rfl, ⟨rfl, ⟨rfl, trivial⟩⟩⟩⟩⟩) rfl rfl (by omega) (by omega) (rfl) (flat_snoc _ _)) (fun v36 hv36 => ?_)
          refine RunL.know (fun _ hs => own_oneCell (hs.own (i := 2) rfl)) (fun h1v => ?_)
          refine RunL.still rfl rfl rfl (Still.fieldAddrL (off := 0) (off' := 0) rfl rfl Tryz.underlying24 rfl Tryz.sizeOf22 rfl) ?_
          refine RunL.does0 rfl rfl (Does.store1 rfl rfl rfl (i := 1) rfl Tryz.sizeOf22 (h1v) (rfl)) (fun _ _ => ?_)
          refine RunL.nil ?_
          refine Ends.block ?_
          refine Ends.then ?_
          refine RunC.region ?_
          refine RunL.still rfl rfl rfl (Still.add rfl rfl rfl (fits64 (by omega) (by omega))) ?_
          refine RunL.still rfl rfl rfl (Still.move rfl rfl) ?_
          refine RunL.nil ?_
          refine Ends.again (v36, c + 1, xs ++ [x]) ?_ ?_ (Fr.Sub.app ?_ ?_) ?_
          · exact ⟨by omega, hcr.snoc hp hx⟩
          · show (piecesB (cutA t) semiS).length - (c + 1) < (piecesB (cutA t) semiS).length - c; omega
          · exact Fr.Sub.cons rfl (Fr.Sub.nil _)
          · exact Fr.Sub.cons rfl (Fr.Sub.cons rfl (Fr.Sub.cons rfl (Fr.Sub.cons rfl (Fr.Sub.cons rfl (Fr.Sub.nil _)))))
          · exact HSub.pick 1 rfl (HSub.pick 1 (by rw [List.length_append]; rfl) (HSub.pick 1 rfl (HSub.pick 1 rfl (HSub.nil _))))
        · have hno := parse_T_badc hcf hp (fun x h => hx ⟨x, h⟩)
          refine RunC.drawX (u := noTextV) 5 [0, 1, 2] 3 [(2, _), (3, _)] [_, _] (by kernel_rfl) (by kernel_rfl) (by rfl) (Fr.Sub.cons rfl (Fr.Sub.cons rfl (Fr.Sub.nil _))) (HSub.pick 0 rfl (HSub.pick 2 rfl (HSub.nil _))) ?_ ?_
          ·
            refine RunX.still rfl rfl rfl rfl (Still.fieldAddrL (off := 0) (off' := 0) rfl rfl Tryz.underlying24 rfl Tryz.sizeOf22 rfl) ?_
            refine RunX.still rfl rfl rfl rfl (Still.load rfl rfl Tryz.isAgg22 (fun _ hs => cell_nth (hs.at (i := 0) rfl) rfl)) ?_
            refine RunX.still rfl rfl rfl rfl (Still.move rfl rfl) ?_
            exact RunX.dies (vs := #[_]) rfl rfl rfl rfl Tryz.call39 (fun w hs => dg_crossing_bad p w (he.sym hs) (by omega) (fun x h => hx ⟨x, h⟩)) (Fr.Sub.cons rfl (Fr.Sub.cons rfl (Fr.Sub.nil _))) (HSub.pick 0 rfl (HSub.pick 2 rfl (HSub.nil _)))
          ·
            refine Ends.block_panic ?_
            refine Ends.then_panic ?_
            refine Ends.then_panic ?_
            refine Ends.block_panic ?_
            refine Ends.then_panic ?_
            have E := errR_2n (t := t) (by omega) hno
            refine Ends.leaveD (K := [_, _]) (Rr := []) (H := [_, _]) (.inr ⟨_, rfl⟩) rfl (fun w => by simp [invoke, Tryz.call36]) rfl (HSub.pick 0 rfl (HSub.pick 0 rfl (HSub.nil _))) (fun _ h => h) (fun w hs => parse_rec b2 b3 _ _ _ w hs.left) (fun _ _ ok => results2 Tryz.results9 (Holds.cell rfl (fun _ hs => load_cells (vs := [_, _]) Tryz.isAgg24 Tryz.sizeOf24 rfl (cells_nth (hs.at (i := 0) rfl) ⟨rfl, ⟨rfl, trivial⟩⟩))) (Holds.cell rfl (fun _ hs => load_one Tryz.isAgg26 (cell_nth (hs.at (i := 1) rfl) rfl))) ok) (fun w5 hs => ?_)
            have hs := hs.own_nil 62 5
            exact Ret.intro (none, 0) (by rw [E.2]; exact fun h => absurd h (Nat.lt_irrefl 0)) (by rw [E.1, E.2]; rfl) (HSub.pick 0 (by rw [E.2]; rfl) (HSub.nil _)) hs
      · have h28 := of_decide_eq_false h28
        obtain rfl : c = (piecesB (cutA t) semiS).length := by omega
        have hcr := hcr.all
        refine RunC.exit ?_
        refine Ends.then_exit ?_
        refine Ends.then_exit ?_
        refine Ends.block_exit ?_
        refine Ends.then ?_
        refine RunC.seq ?_
        refine RunC.region ?_
        refine RunL.still rfl rfl rfl (Still.move rfl rfl) ?_
        by_cases hn : ∃ v, Num (cutB t) v
        · obtain ⟨v, hv⟩ := hn
          have hrd := parse_T_ok hcf hcr.2.1 hcr.2.2 hv
          refine RunL.grows rfl rfl rfl (Grows.call (vs := #[_]) rfl rfl Tryz.call40 (fun w hs => dg_number (cutB t) v w (he.sym hs) hv)) (fun _ _ => ?_)
          refine RunL.still rfl rfl rfl (Still.fieldAddrL (off := 0) (off' := 1) rfl rfl Tryz.underlying24 rfl Tryz.sizeOf3 rfl) ?_
          refine RunL.does0 rfl rfl (Does.store1 rfl rfl rfl (i := 0) rfl Tryz.sizeOf3 (rfl) (rfl)) (fun _ _ => ?_)
          refine RunL.nil ?_
          refine Ends.then ?_
          refine RunC.seq ?_
          refine RunC.seq ?_
          refine RunC.region ?_
          refine RunL.know (fun _ hs => own_shape (hs.own (i := 1) rfl)) (fun hsh => ?_)
          obtain ⟨vb, vc, hvv, hvb⟩ := hsh
          subst hvv
          refine RunL.still rfl rfl rfl (Still.loads rfl rfl Tryz.isAgg24 Tryz.sizeOf24 (vs := [_, _]) rfl (fun _ hs => cells_nth (hs.at (i := 0) rfl) ⟨rfl, ⟨rfl, trivial⟩⟩)) ?_
          refine RunL.grows rfl rfl rfl (Grows.call (vs := #[_]) rfl rfl Tryz.call20 (fun w hs => dg_Check vb (vaddr (.slice vb xs.length vc)) vc ⟨xs, v⟩ w (DiaAt.of_ownW (g := (vb, vc)) (d := ⟨xs, v⟩) (fun x hx => (hcr.2.2 x hx).wf) hv.in64 (by show xs.length ≤ _; omega) (hs.at (i := 1) rfl)))) (fun _ _ => ?_)
          refine RunL.still rfl rfl rfl (Still.assign rfl rfl) ?_
          refine RunL.nil ?_
          refine Ends.then ?_
          refine RunC.seq ?_
          refine RunC.region ?_
          refine RunL.still rfl rfl rfl (Still.move rfl rfl) ?_
          refine RunL.still rfl rfl rfl (Still.neq rfl rfl rfl) ?_
          refine RunL.nil ?_
          refine Ends.then ?_
          refine RunC.cond rfl (fun h45 => ?_) (fun h45 => ?_)
          · have h45 := of_decide_eq_true h45
            refine RunC.seq ?_
            refine RunC.region ?_
            refine RunL.still rfl rfl rfl (Still.build_0 (.agg #[.slice none 0 0, .int .i64 0]) rfl (fun _ => by kernel_rfl)) ?_
            refine RunL.still rfl rfl rfl (Still.move rfl rfl) ?_
            refine RunL.does0 rfl rfl (Does.store rfl rfl rfl (i := 0) rfl Tryz.sizeOf24 rfl (rfl) rfl) (fun _ _ => ?_)
            refine RunL.does0 rfl rfl (Does.store1 rfl rfl rfl (i := 3) rfl Tryz.sizeOf26 (rfl) (rfl)) (fun _ _ => ?_)
            refine RunL.nil ?_
            refine Ends.then ?_
            refine RunC.ret ?_
            refine Ends.then_ret ?_
            have E := errR_3 (t := t) (by omega) hrd h45
            refine Ends.leaveD (K := [_, _]) (Rr := [_, _]) (H := [_, _]) (.inl (.inl rfl)) rfl (fun w => by simp [invoke, Tryz.call36]) rfl (HSub.pick 0 rfl (HSub.pick 2 rfl (HSub.pick 0 rfl (HSub.pick 0 rfl (HSub.nil _))))) (fun _ h => h) (fun w hs => parse_ret b2 b3 _ _ _ w hs.left) (fun _ _ ok => results2 Tryz.results9 (Holds.cell rfl (fun _ hs => load_cells (vs := [_, _]) Tryz.isAgg24 Tryz.sizeOf24 rfl (cells_nth (hs.at (i := 0) rfl) ⟨rfl, ⟨rfl, trivial⟩⟩))) (Holds.cell rfl (fun _ hs => load_one Tryz.isAgg26 (cell_nth (hs.at (i := 1) rfl) rfl))) ok) (fun w6 hs => ?_)
            have hs := hs.own_nil 62 5
            exact Ret.intro (none, 0) (by rw [E.2]; exact fun h => absurd h (Nat.lt_irrefl 0)) (by rw [E.1, E.2]; rfl) (HSub.pick 0 (by rw [E.2]; rfl) (HSub.nil _)) hs
          · have h45 := of_decide_eq_false h45
            refine RunC.skip ?_
            refine Ends.then ?_
            refine RunC.seq ?_
            refine RunC.region ?_
            refine RunL.still rfl rfl rfl (Still.loads rfl rfl Tryz.isAgg24 Tryz.sizeOf24 (vs := [_, _]) rfl (fun _ hs => cells_nth (hs.at (i := 0) rfl) ⟨rfl, ⟨rfl, trivial⟩⟩)) ?_
            refine RunL.does0 rfl rfl (Does.store rfl rfl rfl (i := 0) rfl Tryz.sizeOf24 rfl (rfl) rfl) (fun _ _ => ?_)
            refine RunL.does0 rfl rfl (Does.store1 rfl rfl rfl (i := 3) rfl Tryz.sizeOf26 (rfl) (rfl)) (fun _ _ => ?_)
            refine RunL.nil ?_
            refine Ends.then ?_
            refine RunC.ret ?_
            have E := errR_4 (t := t) (by omega) hrd (Decidable.not_not.1 h45)
            refine Ends.leaveD (K := [_, _]) (Rr := [_, _]) (H := [_, _]) (.inl (.inl rfl)) rfl (fun w => by simp [invoke, Tryz.call36]) rfl (HSub.pick 0 rfl (HSub.pick 2 rfl (HSub.pick 0 rfl (HSub.pick 0 rfl (HSub.nil _))))) (fun _ h => h) (fun w hs => parse_ret b2 b3 _ _ _ w hs.left) (fun _ _ ok => results2 Tryz.results9 (Holds.cell rfl (fun _ hs => load_cells (vs := [_, _]) Tryz.isAgg24 Tryz.sizeOf24 rfl (cells_nth (hs.at (i := 0) rfl) ⟨rfl, ⟨rfl, trivial⟩⟩))) (Holds.cell rfl (fun _ hs => load_one Tryz.isAgg26 (cell_nth (hs.at (i := 1) rfl) rfl))) ok) (fun w7 hs => ?_)
            exact Ret.intro (vb, vc) (by rw [E.2]; exact hvb) (by rw [E.1, E.2]; try rfl) (HSub.pick 2 (by rw [E.2]; rfl) (HSub.nil _)) hs
        · have hno := parse_T_badn hcf (fun v hv => hn ⟨v, hv⟩)
          refine RunL.dies (vs := #[_]) (u := noTextV) rfl rfl rfl Tryz.call40 (fun w hs => dg_number_bad (cutB t) w (he.sym hs) (by have := cutB_size t; omega) (fun v hv => hn ⟨v, hv⟩)) ?_
          refine Ends.then_panic ?_
          have E := errR_2n (t := t) (by omega) hno
          refine Ends.leaveD (K := [_, _]) (Rr := [_, _]) (H := [_, _]) (.inr ⟨_, rfl⟩) rfl (fun w => by simp [invoke, Tryz.call36]) rfl (HSub.pick 0 rfl (HSub.pick 2 rfl (HSub.pick 0 rfl (HSub.pick 0 rfl (HSub.nil _))))) (fun _ h => h) (fun w hs => parse_rec b2 b3 _ _ _ w hs.left) (fun _ _ ok => results2 Tryz.results9 (Holds.cell rfl (fun _ hs => load_cells (vs := [_, _]) Tryz.isAgg24 Tryz.sizeOf24 rfl (cells_nth (hs.at (i := 0) rfl) ⟨rfl, ⟨rfl, trivial⟩⟩))) (Holds.cell rfl (fun _ hs => load_one Tryz.isAgg26 (cell_nth (hs.at (i := 1) rfl) rfl))) ok) (fun w8 hs => ?_)
          have hs := hs.own_nil 62 5
          exact Ret.intro (none, 0) (by rw [E.2]; exact fun h => absurd h (Nat.lt_irrefl 0)) (by rw [E.1, E.2]; rfl) (HSub.pick 0 (by rw [E.2]; rfl) (HSub.nil _)) hs

end Go.Proofs
