/- Orientations of gluings: contracts of both texts. -/
import Derived.Test.YtbnfcbmpgjmhmaaGreatDoorM4
import Derived.Test.YtbnfcbmpgjmhmaaGreatDoorProg
import Derived.KernelRfl
import Derived.Test.YtbnfcbmpgjmhmaaGreatDoorM1
import Derived.Test.YtbnfcbmpgjmhmaaGreatDoorM0
namespace Go.Proofs
open Go Go.V
set_option maxRecDepth 20000
theorem gl_Orient (base : Option Addr) (A : Addr) (cap : Nat) (g : Glu) (w : World) (hg : GluAt w base A g) (hok : okG g = true) : Gives Tryz.prog 15 #[gluV base cap g] w Nil (fun _ : Nat => True) (fun b => oriV g b) (fun b => oriH g b) := by
  have hlen := hg.len
  have h1000 := okG_len hok
  refine fn_of_run (S := Nil) (args := [gluV base cap g]) (n := 95) (L := []) Tryz.func15 rfl Tryz.ntmps15 (Nat.le_of_ble_eq_true rfl) (Sym.nil _ _) ?_
  change RunC _ _ _ [(0, _)] _
  refine RunC.seq ?_
  refine RunC.region ?_
  refine RunL.grows rfl rfl rfl (Grows.box rfl rfl) (fun b1 _ => ?_)
  refine RunL.still rfl rfl rfl (Still.assign rfl rfl) ?_
  refine RunL.still rfl rfl rfl (Still.assign rfl rfl) ?_
  refine RunL.still rfl rfl rfl (Still.assign rfl rfl) ?_
  refine RunL.nil ?_
  refine Ends.then ?_
  refine RunC.seq ?_
  refine RunC.seq ?_
  refine RunC.region ?_
  refine RunL.still rfl rfl rfl (Still.loads rfl rfl Tryz.isAgg24 Tryz.sizeOf24 (vs := [_]) rfl (fun _ hs => cells_nth (hs.at (i := 0) rfl) ⟨rfl, trivial⟩)) ?_
  refine RunL.grows rfl rfl rfl (Grows.call (vs := #[_]) rfl rfl Tryz.call14 (fun w hs => gl_Check base A cap g w (hg.sym hs))) (fun _ _ => ?_)
  refine RunL.still rfl rfl rfl (Still.assign rfl rfl) ?_
  refine RunL.nil ?_
  refine Ends.then ?_
  refine RunC.seq ?_
  refine RunC.region ?_
  refine RunL.still rfl rfl rfl (Still.move rfl rfl) ?_
  refine RunL.still rfl rfl rfl (Still.neq rfl rfl rfl) ?_
  refine RunL.nil ?_
  refine Ends.then ?_
  refine RunC.cond rfl (fun h16 => ?_) (fun h16 => ?_)
  · have h16 := of_decide_eq_true h16
    exact absurd (chkG_ok hok) h16
  · have h16 := of_decide_eq_false h16
    refine RunC.skip ?_
    refine Ends.then ?_
    refine RunC.seq ?_
    refine RunC.region ?_
    refine RunL.still rfl rfl rfl (Still.fieldAddrL (off := 0) (off' := 0) rfl rfl Tryz.underlying24 rfl Tryz.sizeOf22 rfl) ?_
    refine RunL.still rfl rfl rfl (Still.load rfl rfl Tryz.isAgg22 (fun _ hs => cell_nth (hs.at (i := 0) rfl) rfl)) ?_
    refine RunL.still rfl rfl rfl (Still.lenSlice rfl rfl Tryz.underlying22) ?_
    refine RunL.grows rfl rfl rfl (Grows.make (n := g.length) (xs := (ints (List.replicate g.length 0))) rfl rfl rfl Tryz.underlying36 (by kernel_rfl : (_ : Option _) = some (some (.int .i64 0), 1, 8)) rfl (by omega) (by omega) (zeros_one _ _ |>.trans (ints_replicate _ _))) (fun b21 _ => ?_)
    refine RunL.still rfl rfl rfl (Still.assign rfl rfl) ?_
    refine RunL.nil ?_
    refine Ends.then ?_
    refine RunC.seq ?_
    refine RunC.seq ?_
    refine RunC.region ?_
    refine RunL.still rfl rfl rfl (Still.move rfl rfl) ?_
    refine RunL.still rfl rfl rfl (Still.lenOwn rfl rfl Tryz.underlying36 (fun _ hs => hs.own (i := 0) rfl)) ?_
    refine RunL.still rfl rfl rfl (Still.move rfl rfl) ?_
    refine RunL.nil ?_
    refine Ends.then ?_
    refine RunC.block ?_
    refine RunC.loop2 (γ := Nat × List Int) (keep := [(1, _), (6, _), (23, _)]) (hkeep := [_]) (fun (t, out) => t ≤ g.length ∧ oAll g t = some out) (fun (t, out) => g.length - t) (fun (t, out) => [(24, iv t)]) (fun (t, out) => [HL.own 3 1 (.slice (some ⟨b21, 0, none⟩) g.length g.length) g.length (ints out)]) (0, List.replicate g.length 0) ⟨by omega, rfl⟩ (Fr.Sub.cons rfl (Fr.Sub.nil _)) (Fr.Sub.cons rfl (Fr.Sub.cons rfl (Fr.Sub.cons rfl (Fr.Sub.nil _)))) (HSub.pick 0 rfl (HSub.pick 0 rfl (HSub.nil _))) ?_
    rintro ⟨t, out⟩ ⟨ht, hA⟩
    have ht : t ≤ g.length := ht
    have hA : oAll g t = some out := hA
    have hOA := oAll_ok hok t ht hA
    have hol := hOA.len
    refine RunC.seq ?_
    refine RunC.region ?_
    refine RunL.still rfl rfl rfl (Still.lss rfl rfl rfl) ?_
    refine RunL.nil ?_
    refine Ends.then ?_
    refine RunC.seq ?_
    refine RunC.cond rfl (fun h25 => ?_) (fun h25 => ?_)
    · have h25 := of_decide_eq_true h25
      have htN : t < g.length := by omega
      refine RunC.skip ?_
      refine Ends.then ?_
      refine RunC.seq ?_
      refine RunC.block ?_
      refine RunC.seq ?_
      refine RunC.region ?_
      refine RunL.still rfl rfl rfl (Still.move rfl rfl) ?_
      refine RunL.still rfl rfl rfl (Still.assign rfl rfl) ?_
      refine RunL.nil ?_
      refine Ends.then ?_
      refine RunC.seq ?_
      refine RunC.seq ?_
      refine RunC.region ?_
      refine RunL.still rfl rfl rfl (Still.move rfl rfl) ?_
      refine RunL.still rfl rfl rfl (Still.move rfl rfl) ?_
      refine RunL.still rfl rfl rfl (Still.indexOwn rfl rfl rfl Tryz.underlying36 Tryz.sizeOf3 (fun _ hs => hs.own (i := 0) rfl) (by omega)) ?_
      refine RunL.still rfl rfl rfl (Still.load rfl rfl Tryz.isAgg3 (fun w hs => own_at (hs.own (i := 0) rfl) (ints_get (getD_get' (by omega))))) ?_
      refine RunL.still rfl rfl rfl (Still.neq rfl rfl rfl) ?_
      refine RunL.nil ?_
      refine Ends.then ?_
      refine RunC.cond rfl (fun h31 => ?_) (fun h31 => ?_)
      · have h31 := of_decide_eq_true h31
        refine RunC.exit ?_
        refine Ends.then_exit ?_
        refine Ends.block_exit ?_
        refine Ends.then ?_
        refine RunC.region ?_
        refine RunL.still rfl rfl rfl (Still.add rfl rfl rfl (fits64 (by omega) (by omega))) ?_
        refine RunL.still rfl rfl rfl (Still.move rfl rfl) ?_
        refine RunL.nil ?_
        refine Ends.again (t + 1, out) ?_ ?_ (Fr.Sub.app ?_ ?_) ?_
        · exact ⟨by show t + 1 ≤ _; omega, oAll_keep hA h31⟩
        · show _ - (t + 1) < _ - t; omega
        · exact Fr.Sub.cons rfl (Fr.Sub.nil _)
        · exact Fr.Sub.cons rfl (Fr.Sub.cons rfl (Fr.Sub.cons rfl (Fr.Sub.nil _)))
        · exact HSub.pick 0 rfl (HSub.pick 0 rfl (HSub.nil _))
      · have h31 := of_decide_eq_false h31
        have hge := h31
        refine RunC.skip ?_
        refine Ends.then ?_
        refine RunC.seq ?_
        refine RunC.region ?_
        refine RunL.still rfl rfl rfl (Still.move rfl rfl) ?_
        refine RunL.still rfl rfl rfl (Still.move rfl rfl) ?_
        refine RunL.still rfl rfl rfl (Still.indexOwn rfl rfl rfl Tryz.underlying36 Tryz.sizeOf3 (fun _ hs => hs.own (i := 0) rfl) (by omega)) ?_
        refine RunL.does0 rfl rfl (Does.storeOwn1 (xs' := (ints (out.set t 1))) rfl rfl rfl rfl (i := 0) rfl Tryz.sizeOf3 rfl (by simp; omega) (ints_set _ _ _)) (fun _ _ => ?_)
        refine RunL.nil ?_
        refine Ends.then ?_
        refine RunC.seq ?_
        refine RunC.region ?_
        refine RunL.still rfl rfl rfl (Still.move rfl rfl) ?_
        refine RunL.grows rfl rfl rfl (Grows.slice1 rfl rfl Tryz.underlying36 Tryz.sizeOf3 rfl Tryz.zeroValue3 (by decide)) (fun b36 _ => ?_)
        refine RunL.conv (fun _ hs => Sym.obj_own (k := 1) (n := 1) hs rfl (by omega)) ?_
        refine RunL.still rfl rfl rfl (Still.assign rfl rfl) ?_
        refine RunL.nil ?_
        refine Ends.then ?_
        refine RunC.seq ?_
        refine RunC.region ?_
        refine RunL.still rfl rfl rfl (Still.assign rfl rfl) ?_
        refine RunL.nil ?_
        refine Ends.then ?_
        refine RunC.block ?_
        refine RunC.loop2 (γ := Value × BSt × Nat × Nat) (keep := [(1, _), (6, _), (23, _), (24, _)]) (hkeep := [_]) (fun (v, s, i, k) => OSt g s ∧ oBfs g k i s = oBfs g g.length 0 (out.set t 1, [t]) ∧ i + k = g.length) (fun (v, s, i, k) => k) (fun (v, s, i, k) => [(8, v), (9, iv i)]) (fun (v, s, i, k) => [HL.own 3 1 (.slice (some ⟨b21, 0, none⟩) g.length g.length) g.length (ints s.1), HL.own 3 1 v s.2.length (nints s.2)]) (.slice (some ⟨b36, 0, none⟩) 1 1, (out.set t 1, [t]), 0, g.length) ⟨OSt.start hOA (by omega) (Decidable.not_not.1 hge), rfl, by omega⟩ (Fr.Sub.cons rfl (Fr.Sub.cons rfl (Fr.Sub.nil _))) (Fr.Sub.cons rfl (Fr.Sub.cons rfl (Fr.Sub.cons rfl (Fr.Sub.cons rfl (Fr.Sub.nil _))))) (HSub.pick 1 rfl (HSub.pick 0 (by rfl) (HSub.pick 0 rfl (HSub.nil _)))) ?_
        rintro ⟨v, s, i, k⟩ ⟨hO, hM, hik⟩
        have hO : OSt g s := hO
        have hik : i + k = g.length := hik
        have hroom := hO.room
        have hsl := hO.len
        refine RunC.seq ?_
        refine RunC.seq ?_
        refine RunC.region ?_
        refine RunL.still rfl rfl rfl (Still.move rfl rfl) ?_
        refine RunL.still rfl rfl rfl (Still.move rfl rfl) ?_
        refine RunL.still rfl rfl rfl (Still.lenOwn rfl rfl Tryz.underlying36 (fun _ hs => hs.own (i := 1) rfl)) ?_
        refine RunL.still rfl rfl rfl (Still.lss rfl rfl rfl) ?_
        refine RunL.nil ?_
        refine Ends.then ?_
        refine RunC.cond rfl (fun h40 => ?_) (fun h40 => ?_)
        · have h40 := of_decide_eq_true h40
          obtain ⟨u, hu⟩ := get_of_lt (l := s.2) (i := i) (by omega)
          have huN : u < g.length := hO.mem u (List.mem_of_getElem? hu)
          have hzu := hO.set u (List.mem_of_getElem? hu)
          refine RunC.skip ?_
          refine Ends.then ?_
          refine RunC.seq ?_
          refine RunC.block ?_
          refine RunC.seq ?_
          refine RunC.drawY (.pure 0 (.pure 2 (.pure 3 (.pure 8 (.two 1 (.one 4 (.one 5 (.pure 6 (.one 7 .done)))) 4 (.two 1 (.one 5 (.pure 6 (.one 7 .done))) 5 (.one 1 (.pure 6 (.one 7 .done))))))))) (by kernel_rfl) (by kernel_rfl) ?_
          refine RunY.pure rfl rfl rfl rfl (fun _ => Still.fieldAddrL (off := 0) (off' := 0) rfl rfl Tryz.underlying24 rfl Tryz.sizeOf22 rfl) ?_
          refine RunY.pure rfl rfl rfl rfl (fun _ => Still.move rfl rfl) ?_
          refine RunY.pure rfl rfl rfl rfl (fun _ => Still.move rfl rfl) ?_
          refine RunY.pure rfl rfl rfl rfl (fun _ => Still.move rfl rfl) ?_
          refine RunY.two ?_ ?_
          ·
            refine RunY.still rfl rfl rfl rfl (Still.load rfl rfl Tryz.isAgg22 (fun _ hs => cell_nth (hs.at (i := 2) rfl) rfl)) ?_
            refine RunY.still rfl rfl rfl rfl (Still.indexOwn rfl rfl rfl Tryz.underlying36 Tryz.sizeOf3 (fun _ hs => hs.own (i := 1) rfl) (by omega)) ?_
            refine RunY.still rfl rfl rfl rfl (Still.load rfl rfl Tryz.isAgg3 (fun w hs => own_at (hs.own (i := 1) rfl) (nints_get hu))) ?_
            refine RunY.pure rfl rfl rfl rfl (fun _ => Still.indexSliceN rfl rfl rfl Tryz.underlying22 Tryz.sizeOf35 (hg.base (by omega)) (by omega)) ?_
            refine RunY.still rfl rfl rfl rfl (Still.loads rfl rfl Tryz.isAgg35 Tryz.sizeOf35 (vs := [iv (tAt g u).f0.tet, iv (tAt g u).f0.p.a0, iv (tAt g u).f0.p.a1, iv (tAt g u).f0.p.a2, iv (tAt g u).f0.p.a3, iv (tAt g u).f1.tet, iv (tAt g u).f1.p.a0, iv (tAt g u).f1.p.a1, iv (tAt g u).f1.p.a2, iv (tAt g u).f1.p.a3, iv (tAt g u).f2.tet, iv (tAt g u).f2.p.a0, iv (tAt g u).f2.p.a1, iv (tAt g u).f2.p.a2, iv (tAt g u).f2.p.a3, iv (tAt g u).f3.tet, iv (tAt g u).f3.p.a0, iv (tAt g u).f3.p.a1, iv (tAt g u).f3.p.a2, iv (tAt g u).f3.p.a3]) rfl (fun _ hs => (hg.sym hs).cell u _ (tAt_get huN))) ?_
            refine RunY.done ?_
            refine Ends.then ?_
            refine RunC.block ?_
            refine RunC.loop2 (γ := Value × Nat × BSt) (keep := [(1, _), (6, _), (9, _), (23, _), (24, _), (50, _)]) (hkeep := [_]) (fun (v, f, q) => f ≤ 4 ∧ oTo g u s f = some q) (fun (v, f, q) => 4 - f) (fun (v, f, q) => [(8, v), (51, iv f)]) (fun (v, f, q) => [HL.own 3 1 (.slice (some ⟨b21, 0, none⟩) g.length g.length) g.length (ints q.1), HL.own 3 1 v q.2.length (nints q.2)]) (v, 0, s) ⟨Nat.zero_le 4, rfl⟩ (Fr.Sub.cons rfl (Fr.Sub.cons rfl (Fr.Sub.nil _))) (Fr.Sub.cons rfl (Fr.Sub.cons rfl (Fr.Sub.cons rfl (Fr.Sub.cons rfl (Fr.Sub.cons rfl (Fr.Sub.cons rfl (Fr.Sub.nil _))))))) (HSub.pick 0 rfl (HSub.pick 0 rfl (HSub.pick 0 rfl (HSub.nil _)))) ?_
            rintro ⟨v, f, q⟩ ⟨hf, hT⟩
            have hf : f ≤ 4 := hf
            have hT : oTo g u s f = some q := hT
            obtain ⟨hO4, hz4⟩ := oTo_ok hok huN hO hzu f hf hT
            have hq4 := oTo_pre hu f hT
            have hi4 := (List.getElem?_eq_some_iff.1 hq4).1
            have hr4 := hO4.room
            have hl4 := hO4.len
            refine RunC.seq ?_
            refine RunC.region ?_
            refine RunL.still rfl rfl rfl (Still.lss rfl rfl rfl) ?_
            refine RunL.nil ?_
            refine Ends.then ?_
            refine RunC.seq ?_
            refine RunC.cond rfl (fun h52 => ?_) (fun h52 => ?_)
            · have h52 := of_decide_eq_true h52
              have hf4 : f < 4 := by omega
              refine RunC.skip ?_
              refine Ends.then ?_
              refine RunC.seq ?_
              refine RunC.block ?_
              refine RunC.seq ?_
              refine RunC.region ?_
              refine RunL.still rfl rfl rfl (Still.indexAgg rfl rfl rfl Tryz.underlying35 Tryz.sizeOf34 Tryz.isAgg34 ⟨by omega, by omega⟩ (ttV_fAt g u hf4)) ?_
              refine RunL.grows rfl rfl rfl (Grows.alloc rfl Tryz.zeroValue34) (fun b11 _ => ?_)
              refine RunL.does0 rfl rfl (Does.store rfl rfl rfl (i := 0) rfl Tryz.sizeOf34 rfl (rfl) rfl) (fun _ _ => ?_)
              refine RunL.nil ?_
              refine Ends.then ?_
              refine RunC.seq ?_
              refine RunC.seq ?_
              refine RunC.region ?_
              refine RunL.still rfl rfl rfl (Still.fieldAddrL (off := 0) (off' := 0) rfl rfl Tryz.underlying34 rfl Tryz.sizeOf3 rfl) ?_
              refine RunL.still rfl rfl rfl (Still.load rfl rfl Tryz.isAgg3 (fun _ hs => cell_nth (hs.at (i := 0) rfl) rfl)) ?_
              refine RunL.still rfl rfl rfl (Still.lss rfl rfl rfl) ?_
              refine RunL.nil ?_
              refine Ends.then ?_
              refine RunC.cond rfl (fun h56 => ?_) (fun h56 => ?_)
              · have h56 := of_decide_eq_true h56
                refine RunC.exit ?_
                refine Ends.then_exit ?_
                refine Ends.block_exit ?_
                refine Ends.then ?_
                refine RunC.region ?_
                refine RunL.still rfl rfl rfl (Still.add rfl rfl rfl (fits64 (by omega) (by omega))) ?_
                refine RunL.still rfl rfl rfl (Still.move rfl rfl) ?_
                refine RunL.nil ?_
                refine Ends.again (v, f + 1, q) ?_ ?_ (Fr.Sub.app ?_ ?_) ?_
                · exact ⟨by show f + 1 ≤ 4; omega, oTo_snoc hT (oFace_free h56)⟩
                · show 4 - (f + 1) < 4 - f; omega
                · exact Fr.Sub.cons rfl (Fr.Sub.cons rfl (Fr.Sub.nil _))
                · exact Fr.Sub.cons rfl (Fr.Sub.cons rfl (Fr.Sub.cons rfl (Fr.Sub.cons rfl (Fr.Sub.cons rfl (Fr.Sub.cons rfl (Fr.Sub.nil _))))))
                · exact HSub.pick 1 rfl (HSub.pick 1 rfl (HSub.pick 1 rfl (HSub.nil _)))
              · have h56 := of_decide_eq_false h56
                have hF := okG_glued hok huN hf4 (by omega)
                have hFl := hF.lo
                have hFh := hF.hi
                have hw1 := want_one hO4 (fAt g u f).p hz4
                have hs1 := sgnP_one (fAt g u f).p
                refine RunC.skip ?_
                refine Ends.then ?_
                refine RunC.seq ?_
                refine RunC.draw 12 (.still 0 (.still 1 (.still 4 (.still 5 (.still 6 (.still 7 (.still 8 (.still 9 (.still 10 (.one 2 (.still 3 (.still 11 .done)))))))))))) (by kernel_rfl) (by kernel_rfl) ?_
                refine RunG.still rfl rfl rfl rfl (Still.fieldAddrL (off := 0) (off' := 1) rfl rfl Tryz.underlying34 rfl Tryz.sizeOf32 rfl) ?_
                refine RunG.still rfl rfl rfl rfl (Still.loads rfl rfl Tryz.isAgg32 Tryz.sizeOf32 (vs := [_, _, _, _]) rfl (fun _ hs => cells_nth (hs.at (i := 0) rfl) ⟨rfl, ⟨rfl, ⟨rfl, ⟨rfl, trivial⟩⟩⟩⟩)) ?_
                refine RunG.still rfl rfl rfl rfl (Still.move rfl rfl) ?_
                refine RunG.still rfl rfl rfl rfl (Still.move rfl rfl) ?_
                refine RunG.still rfl rfl rfl rfl (Still.move rfl rfl) ?_
                refine RunG.still rfl rfl rfl rfl (Still.indexOwn rfl rfl rfl Tryz.underlying36 Tryz.sizeOf3 (fun _ hs => hs.own (i := 2) rfl) (by omega)) ?_
                refine RunG.still rfl rfl rfl rfl (Still.load rfl rfl Tryz.isAgg3 (fun w hs => own_at (hs.own (i := 2) rfl) (nints_get hq4))) ?_
                refine RunG.still rfl rfl rfl rfl (Still.indexOwn rfl rfl rfl Tryz.underlying36 Tryz.sizeOf3 (fun _ hs => hs.own (i := 1) rfl) (by omega)) ?_
                refine RunG.still rfl rfl rfl rfl (Still.load rfl rfl Tryz.isAgg3 (fun w hs => own_at (hs.own (i := 1) rfl) (ints_get (getD_get' (by omega))))) ?_
                refine RunG.grows rfl rfl rfl rfl (Grows.call (vs := #[_]) rfl rfl Tryz.call46 (fun w hs => gl_sign _ w)) (fun _ _ => ?_)
                refine RunG.still rfl rfl rfl rfl (Still.neg rfl rfl (fits64 (by omega) (by omega))) ?_
                refine RunG.still rfl rfl rfl rfl (Still.mul rfl rfl rfl (fits64 (by omega) (by omega))) ?_
                refine RunG.done ?_
                show RunL _ _ _ [_] _ _
                refine RunL.still rfl rfl rfl (Still.assign rfl rfl) ?_
                refine RunL.nil ?_
                refine Ends.then ?_
                refine RunC.seq ?_
                refine RunC.seq ?_
                refine RunC.region ?_
                refine RunL.still rfl rfl rfl (Still.move rfl rfl) ?_
                refine RunL.still rfl rfl rfl (Still.fieldAddrL (off := 0) (off' := 0) rfl rfl Tryz.underlying34 rfl Tryz.sizeOf3 rfl) ?_
                refine RunL.still rfl rfl rfl (Still.load rfl rfl Tryz.isAgg3 (fun _ hs => cell_nth (hs.at (i := 0) rfl) rfl)) ?_
                refine RunL.still rfl rfl rfl (Still.indexOwnI (m := (fAt g u f).tet.toNat) rfl rfl rfl Tryz.underlying36 Tryz.sizeOf3 (fun _ hs => hs.own (i := 1) rfl) (by omega) (by omega)) ?_
                refine RunL.still rfl rfl rfl (Still.load rfl rfl Tryz.isAgg3 (fun w hs => own_at (hs.own (i := 1) rfl) (ints_get (getD_get' (by omega))))) ?_
                refine RunL.still rfl rfl rfl (Still.eql rfl rfl rfl) ?_
                refine RunL.nil ?_
                refine Ends.then ?_
                refine RunC.cond rfl (fun h74 => ?_) (fun h74 => ?_)
                · have h74 := of_decide_eq_true h74
                  refine RunC.seq ?_
                  refine RunC.region ?_
                  refine RunL.still rfl rfl rfl (Still.move rfl rfl) ?_
                  refine RunL.still rfl rfl rfl (Still.fieldAddrL (off := 0) (off' := 0) rfl rfl Tryz.underlying34 rfl Tryz.sizeOf3 rfl) ?_
                  refine RunL.still rfl rfl rfl (Still.load rfl rfl Tryz.isAgg3 (fun _ hs => cell_nth (hs.at (i := 0) rfl) rfl)) ?_
                  refine RunL.still rfl rfl rfl (Still.move rfl rfl) ?_
                  refine RunL.still rfl rfl rfl (Still.indexOwnI (m := (fAt g u f).tet.toNat) rfl rfl rfl Tryz.underlying36 Tryz.sizeOf3 (fun _ hs => hs.own (i := 1) rfl) (by omega) (by omega)) ?_
                  refine RunL.does0 rfl rfl (Does.storeOwn1 (xs' := (ints (q.1.set (fAt g u f).tet.toNat (-sgnP (fAt g u f).p * q.1.getD u 0)))) rfl rfl rfl rfl (i := 1) rfl Tryz.sizeOf3 rfl (by simp; omega) (ints_set _ _ _)) (fun _ _ => ?_)
                  refine RunL.nil ?_
                  refine Ends.then ?_
                  refine RunC.region ?_
                  refine RunL.still rfl rfl rfl (Still.move rfl rfl) ?_
                  refine RunL.still rfl rfl rfl (Still.fieldAddrL (off := 0) (off' := 0) rfl rfl Tryz.underlying34 rfl Tryz.sizeOf3 rfl) ?_
                  refine RunL.still rfl rfl rfl (Still.load rfl rfl Tryz.isAgg3 (fun _ hs => cell_nth (hs.at (i := 0) rfl) rfl)) ?_
                  refine RunL.grows rfl rfl rfl (Grows.slice1 rfl rfl Tryz.underlying36 Tryz.sizeOf3 rfl Tryz.zeroValue3 (by decide)) (fun b83 _ => ?_)
                  refine RunL.does rfl rfl rfl (Does.appendTo (n' := (q.2.length + 1)) (xs' := (nints (q.2 ++ [(fAt g u f).tet.toNat]))) (news := [_]) rfl rfl rfl rfl (i := 3) rfl Tryz.underlying36 (by kernel_rfl : (_ : Option _) = some (some (.int .i64 0), 1, 8)) rfl rfl (fun _ hs => cells_nth (hs.at (i := 0) rfl) ⟨rfl, trivial⟩) rfl rfl (by omega) (by omega) (rfl) ((congrArg (fun z => _ ++ [iv z]) (by omega)).trans (nints_snoc _ _))) (fun v84 hv84 => ?_)
                  refine RunL.still rfl rfl rfl (Still.assign rfl rfl) ?_
                  refine RunL.nil ?_
                  refine Ends.then ?_
                  refine RunC.seq ?_
                  refine RunC.region ?_
                  refine RunL.still rfl rfl rfl (Still.move rfl rfl) ?_
                  refine RunL.still rfl rfl rfl (Still.fieldAddrL (off := 0) (off' := 0) rfl rfl Tryz.underlying34 rfl Tryz.sizeOf3 rfl) ?_
                  refine RunL.still rfl rfl rfl (Still.load rfl rfl Tryz.isAgg3 (fun _ hs => cell_nth (hs.at (i := 1) rfl) rfl)) ?_
                  refine RunL.still rfl rfl rfl (Still.indexOwnI (m := (fAt g u f).tet.toNat) rfl rfl rfl Tryz.underlying36 Tryz.sizeOf3 (fun _ hs => hs.own (i := 2) rfl) (by omega) (by omega)) ?_
                  refine RunL.still rfl rfl rfl (Still.load rfl rfl Tryz.isAgg3 (fun w hs => own_at (hs.own (i := 2) rfl) (ints_get (getD_get' (by first | omega | (simp; omega)))))) ?_
                  refine RunL.still rfl rfl rfl (Still.move rfl rfl) ?_
                  refine RunL.still rfl rfl rfl (Still.neq rfl rfl rfl) ?_
                  refine RunL.nil ?_
                  refine Ends.then ?_
                  refine RunC.cond rfl (fun h91 => ?_) (fun h91 => ?_)
                  · have h91 := of_decide_eq_true h91
                    refine RunC.seq ?_
                    refine RunC.region ?_
                    refine RunL.still rfl rfl rfl (Still.assign rfl rfl) ?_
                    refine RunL.still rfl rfl rfl (Still.assign rfl rfl) ?_
                    refine RunL.still rfl rfl rfl (Still.assign rfl rfl) ?_
                    refine RunL.nil ?_
                    refine Ends.then ?_
                    refine RunC.ret ?_
                    refine Ends.block_ret ?_
                    refine Ends.then_ret ?_
                    refine Ends.then_ret ?_
                    refine Ends.block_ret ?_
                    refine Ends.block_ret ?_
                    refine Ends.then_ret ?_
                    refine Ends.then_ret ?_
                    refine Ends.block_ret ?_
                    refine Ends.block_ret ?_
                    refine Ends.then_ret ?_
                    refine Ends.then_ret ?_
                    refine Ends.block_ret ?_
                    refine Ends.then_ret ?_
                    refine Ends.leave (.inl rfl) (fun _ _ ok => results3 Tryz.results15 (Holds.tmp rfl) (Holds.tmp rfl) (Holds.tmp rfl) ok) (fun w1 hs => ?_)
                    exact absurd (getD_set_self' (by omega)) h91
                  · have h91 := of_decide_eq_false h91
                    refine RunC.skip ?_
                    refine Ends.block ?_
                    refine Ends.then ?_
                    refine RunC.region ?_
                    refine RunL.still rfl rfl rfl (Still.add rfl rfl rfl (fits64 (by omega) (by omega))) ?_
                    refine RunL.still rfl rfl rfl (Still.move rfl rfl) ?_
                    refine RunL.nil ?_
                    refine Ends.again (v84, f + 1, (q.1.set (fAt g u f).tet.toNat (-sgnP (fAt g u f).p * q.1.getD u 0), q.2 ++ [(fAt g u f).tet.toNat])) ?_ ?_ (Fr.Sub.app ?_ ?_) ?_
                    · exact ⟨by show f + 1 ≤ 4; omega, oTo_snoc hT (oFace_new h56 h74)⟩
                    · show 4 - (f + 1) < 4 - f; omega
                    · exact Fr.Sub.cons rfl (Fr.Sub.cons rfl (Fr.Sub.nil _))
                    · exact Fr.Sub.cons rfl (Fr.Sub.cons rfl (Fr.Sub.cons rfl (Fr.Sub.cons rfl (Fr.Sub.cons rfl (Fr.Sub.cons rfl (Fr.Sub.nil _))))))
                    · exact HSub.pick 2 rfl (HSub.pick 2 (by simp only [List.length_append, List.length_singleton]; rfl) (HSub.pick 2 rfl (HSub.nil _)))
                · have h74 := of_decide_eq_false h74
                  refine RunC.skip ?_
                  refine Ends.then ?_
                  refine RunC.seq ?_
                  refine RunC.region ?_
                  refine RunL.still rfl rfl rfl (Still.move rfl rfl) ?_
                  refine RunL.still rfl rfl rfl (Still.fieldAddrL (off := 0) (off' := 0) rfl rfl Tryz.underlying34 rfl Tryz.sizeOf3 rfl) ?_
                  refine RunL.still rfl rfl rfl (Still.load rfl rfl Tryz.isAgg3 (fun _ hs => cell_nth (hs.at (i := 0) rfl) rfl)) ?_
                  refine RunL.still rfl rfl rfl (Still.indexOwnI (m := (fAt g u f).tet.toNat) rfl rfl rfl Tryz.underlying36 Tryz.sizeOf3 (fun _ hs => hs.own (i := 1) rfl) (by omega) (by omega)) ?_
                  refine RunL.still rfl rfl rfl (Still.load rfl rfl Tryz.isAgg3 (fun w hs => own_at (hs.own (i := 1) rfl) (ints_get (getD_get' (by first | omega | (simp; omega)))))) ?_
                  refine RunL.still rfl rfl rfl (Still.move rfl rfl) ?_
                  refine RunL.still rfl rfl rfl (Still.neq rfl rfl rfl) ?_
                  refine RunL.nil ?_
                  refine Ends.then ?_
                  refine RunC.cond rfl (fun h91 => ?_) (fun h91 => ?_)
                  · have h91 := of_decide_eq_true h91
                    refine RunC.seq ?_
                    refine RunC.region ?_
                    refine RunL.still rfl rfl rfl (Still.assign rfl rfl) ?_
                    refine RunL.still rfl rfl rfl (Still.assign rfl rfl) ?_
                    refine RunL.still rfl rfl rfl (Still.assign rfl rfl) ?_
                    refine RunL.nil ?_
                    refine Ends.then ?_
                    refine RunC.ret ?_
                    refine Ends.block_ret ?_
                    refine Ends.then_ret ?_
                    refine Ends.then_ret ?_
                    refine Ends.block_ret ?_
                    refine Ends.block_ret ?_
                    refine Ends.then_ret ?_
                    refine Ends.then_ret ?_
                    refine Ends.block_ret ?_
                    refine Ends.block_ret ?_
                    refine Ends.then_ret ?_
                    refine Ends.then_ret ?_
                    refine Ends.block_ret ?_
                    refine Ends.then_ret ?_
                    have hn4 := oTo_none4 hf4 hT (oFace_bad h56 h74 h91)
                    obtain ⟨k, rfl⟩ : ∃ m, k = m + 1 := ⟨k - 1, by have := (List.getElem?_eq_some_iff.1 hu).1; omega⟩
                    have hn := oriG_none (g := g) (t := t + 1) (by omega) (by rw [oAll_new hA hge, ← hM, oBfs_step hu, hn4]; rfl)
                    refine Ends.leave (.inl rfl) (fun _ _ ok => results3 Tryz.results15 (Holds.tmp rfl) (Holds.tmp rfl) (Holds.tmp rfl) ok) (fun w2 hs => ?_)
                    exact Ret.intro 0 trivial (by rw [oriV_none hn]) (by rw [oriH_none hn]; exact HSub.nil _) hs
                  · have h91 := of_decide_eq_false h91
                    refine RunC.skip ?_
                    refine Ends.block ?_
                    refine Ends.then ?_
                    refine RunC.region ?_
                    refine RunL.still rfl rfl rfl (Still.add rfl rfl rfl (fits64 (by omega) (by omega))) ?_
                    refine RunL.still rfl rfl rfl (Still.move rfl rfl) ?_
                    refine RunL.nil ?_
                    refine Ends.again (v, f + 1, q) ?_ ?_ (Fr.Sub.app ?_ ?_) ?_
                    · exact ⟨by show f + 1 ≤ 4; omega, oTo_snoc hT (oFace_same h56 h74 (Decidable.not_not.1 h91))⟩
                    · show 4 - (f + 1) < 4 - f; omega
                    · exact Fr.Sub.cons rfl (Fr.Sub.cons rfl (Fr.Sub.nil _))
                    · exact Fr.Sub.cons rfl (Fr.Sub.cons rfl (Fr.Sub.cons rfl (Fr.Sub.cons rfl (Fr.Sub.cons rfl (Fr.Sub.cons rfl (Fr.Sub.nil _))))))
                    · exact HSub.pick 1 rfl (HSub.pick 1 rfl (HSub.pick 1 rfl (HSub.nil _)))
            · have h52 := of_decide_eq_false h52
              obtain rfl : f = 4 := by omega
              refine RunC.exit ?_
              refine Ends.then_exit ?_
              refine Ends.then_exit ?_
              refine Ends.block_exit ?_
              refine Ends.block ?_
              refine Ends.then ?_
              refine RunC.region ?_
              refine RunL.still rfl rfl rfl (Still.move rfl rfl) ?_
              refine RunL.still rfl rfl rfl (Still.add rfl rfl rfl (fits64 (by omega) (by omega))) ?_
              refine RunL.still rfl rfl rfl (Still.assign rfl rfl) ?_
              refine RunL.nil ?_
              obtain ⟨k, rfl⟩ : ∃ m, k = m + 1 := ⟨k - 1, by have := (List.getElem?_eq_some_iff.1 hu).1; omega⟩
              refine Ends.again (v, q, i + 1, k) ?_ ?_ (Fr.Sub.app ?_ ?_) ?_
              · exact ⟨hO4, by rw [← hM, oBfs_step hu, hT]; rfl, by show i + 1 + k = _; omega⟩
              · exact Nat.lt_succ_self _
              · exact Fr.Sub.cons rfl (Fr.Sub.cons rfl (Fr.Sub.nil _))
              · exact Fr.Sub.cons rfl (Fr.Sub.cons rfl (Fr.Sub.cons rfl (Fr.Sub.cons rfl (Fr.Sub.nil _))))
              · exact HSub.pick 0 rfl (HSub.pick 0 rfl (HSub.pick 0 rfl (HSub.nil _)))
          ·
            refine RunY.still rfl rfl rfl rfl (Still.indexOwn rfl rfl rfl Tryz.underlying36 Tryz.sizeOf3 (fun _ hs => hs.own (i := 1) rfl) (by omega)) ?_
            refine RunY.two ?_ ?_
            ·
              refine RunY.still rfl rfl rfl rfl (Still.load rfl rfl Tryz.isAgg22 (fun _ hs => cell_nth (hs.at (i := 2) rfl) rfl)) ?_
              refine RunY.still rfl rfl rfl rfl (Still.load rfl rfl Tryz.isAgg3 (fun w hs => own_at (hs.own (i := 1) rfl) (nints_get hu))) ?_
              refine RunY.pure rfl rfl rfl rfl (fun _ => Still.indexSliceN rfl rfl rfl Tryz.underlying22 Tryz.sizeOf35 (hg.base (by omega)) (by omega)) ?_
              refine RunY.still rfl rfl rfl rfl (Still.loads rfl rfl Tryz.isAgg35 Tryz.sizeOf35 (vs := [iv (tAt g u).f0.tet, iv (tAt g u).f0.p.a0, iv (tAt g u).f0.p.a1, iv (tAt g u).f0.p.a2, iv (tAt g u).f0.p.a3, iv (tAt g u).f1.tet, iv (tAt g u).f1.p.a0, iv (tAt g u).f1.p.a1, iv (tAt g u).f1.p.a2, iv (tAt g u).f1.p.a3, iv (tAt g u).f2.tet, iv (tAt g u).f2.p.a0, iv (tAt g u).f2.p.a1, iv (tAt g u).f2.p.a2, iv (tAt g u).f2.p.a3, iv (tAt g u).f3.tet, iv (tAt g u).f3.p.a0, iv (tAt g u).f3.p.a1, iv (tAt g u).f3.p.a2, iv (tAt g u).f3.p.a3]) rfl (fun _ hs => (hg.sym hs).cell u _ (tAt_get huN))) ?_
              refine RunY.done ?_
              refine Ends.then ?_
              refine RunC.block ?_
              refine RunC.loop2 (γ := Value × Nat × BSt) (keep := [(1, _), (6, _), (9, _), (23, _), (24, _), (50, _)]) (hkeep := [_]) (fun (v, f, q) => f ≤ 4 ∧ oTo g u s f = some q) (fun (v, f, q) => 4 - f) (fun (v, f, q) => [(8, v), (51, iv f)]) (fun (v, f, q) => [HL.own 3 1 (.slice (some ⟨b21, 0, none⟩) g.length g.length) g.length (ints q.1), HL.own 3 1 v q.2.length (nints q.2)]) (v, 0, s) ⟨Nat.zero_le 4, rfl⟩ (Fr.Sub.cons rfl (Fr.Sub.cons rfl (Fr.Sub.nil _))) (Fr.Sub.cons rfl (Fr.Sub.cons rfl (Fr.Sub.cons rfl (Fr.Sub.cons rfl (Fr.Sub.cons rfl (Fr.Sub.cons rfl (Fr.Sub.nil _))))))) (HSub.pick 0 rfl (HSub.pick 0 rfl (HSub.pick 0 rfl (HSub.nil _)))) ?_
              rintro ⟨v, f, q⟩ ⟨hf, hT⟩
              have hf : f ≤ 4 := hf
              have hT : oTo g u s f = some q := hT
              obtain ⟨hO4, hz4⟩ := oTo_ok hok huN hO hzu f hf hT
              have hq4 := oTo_pre hu f hT
              have hi4 := (List.getElem?_eq_some_iff.1 hq4).1
              have hr4 := hO4.room
              have hl4 := hO4.len
              refine RunC.seq ?_
              refine RunC.region ?_
              refine RunL.still rfl rfl rfl (Still.lss rfl rfl rfl) ?_
              refine RunL.nil ?_
              refine Ends.then ?_
              refine RunC.seq ?_
              refine RunC.cond rfl (fun h52 => ?_) (fun h52 => ?_)
              · have h52 := of_decide_eq_true h52
                have hf4 : f < 4 := by omega
                refine RunC.skip ?_
                refine Ends.then ?_
                refine RunC.seq ?_
                refine RunC.block ?_
                refine RunC.seq ?_
                refine RunC.region ?_
                refine RunL.still rfl rfl rfl (Still.indexAgg rfl rfl rfl Tryz.underlying35 Tryz.sizeOf34 Tryz.isAgg34 ⟨by omega, by omega⟩ (ttV_fAt g u hf4)) ?_
                refine RunL.grows rfl rfl rfl (Grows.alloc rfl Tryz.zeroValue34) (fun b11 _ => ?_)
                refine RunL.does0 rfl rfl (Does.store rfl rfl rfl (i := 0) rfl Tryz.sizeOf34 rfl (rfl) rfl) (fun _ _ => ?_)
                refine RunL.nil ?_
                refine Ends.then ?_
                refine RunC.seq ?_
                refine RunC.seq ?_
                refine RunC.region ?_
                refine RunL.still rfl rfl rfl (Still.fieldAddrL (off := 0) (off' := 0) rfl rfl Tryz.underlying34 rfl Tryz.sizeOf3 rfl) ?_
                refine RunL.still rfl rfl rfl (Still.load rfl rfl Tryz.isAgg3 (fun _ hs => cell_nth (hs.at (i := 0) rfl) rfl)) ?_
                refine RunL.still rfl rfl rfl (Still.lss rfl rfl rfl) ?_
                refine RunL.nil ?_
                refine Ends.then ?_
                refine RunC.cond rfl (fun h56 => ?_) (fun h56 => ?_)
                · have h56 := of_decide_eq_true h56
                  refine RunC.exit ?_
                  refine Ends.then_exit ?_
                  refine Ends.block_exit ?_
                  refine Ends.then ?_
                  refine RunC.region ?_
                  refine RunL.still rfl rfl rfl (Still.add rfl rfl rfl (fits64 (by omega) (by omega))) ?_
                  refine RunL.still rfl rfl rfl (Still.move rfl rfl) ?_
                  refine RunL.nil ?_
                  refine Ends.again (v, f + 1, q) ?_ ?_ (Fr.Sub.app ?_ ?_) ?_
                  · exact ⟨by show f + 1 ≤ 4; omega, oTo_snoc hT (oFace_free h56)⟩
                  · show 4 - (f + 1) < 4 - f; omega
                  · exact Fr.Sub.cons rfl (Fr.Sub.cons rfl (Fr.Sub.nil _))
                  · exact Fr.Sub.cons rfl (Fr.Sub.cons rfl (Fr.Sub.cons rfl (Fr.Sub.cons rfl (Fr.Sub.cons rfl (Fr.Sub.cons rfl (Fr.Sub.nil _))))))
                  · exact HSub.pick 1 rfl (HSub.pick 1 rfl (HSub.pick 1 rfl (HSub.nil _)))
                · have h56 := of_decide_eq_false h56
                  have hF := okG_glued hok huN hf4 (by omega)
                  have hFl := hF.lo
                  have hFh := hF.hi
                  have hw1 := want_one hO4 (fAt g u f).p hz4
                  have hs1 := sgnP_one (fAt g u f).p
                  refine RunC.skip ?_
                  refine Ends.then ?_
                  refine RunC.seq ?_
                  refine RunC.draw 12 (.still 0 (.still 1 (.still 4 (.still 5 (.still 6 (.still 7 (.still 8 (.still 9 (.still 10 (.one 2 (.still 3 (.still 11 .done)))))))))))) (by kernel_rfl) (by kernel_rfl) ?_
                  refine RunG.still rfl rfl rfl rfl (Still.fieldAddrL (off := 0) (off' := 1) rfl rfl Tryz.underlying34 rfl Tryz.sizeOf32 rfl) ?_
                  refine RunG.still rfl rfl rfl rfl (Still.loads rfl rfl Tryz.isAgg32 Tryz.sizeOf32 (vs := [_, _, _, _]) rfl (fun _ hs => cells_nth (hs.at (i := 0) rfl) ⟨rfl, ⟨rfl, ⟨rfl, ⟨rfl, trivial⟩⟩⟩⟩)) ?_
                  refine RunG.still rfl rfl rfl rfl (Still.move rfl rfl) ?_
                  refine RunG.still rfl rfl rfl rfl (Still.move rfl rfl) ?_
                  refine RunG.still rfl rfl rfl rfl (Still.move rfl rfl) ?_
                  refine RunG.still rfl rfl rfl rfl (Still.indexOwn rfl rfl rfl Tryz.underlying36 Tryz.sizeOf3 (fun _ hs => hs.own (i := 2) rfl) (by omega)) ?_
                  refine RunG.still rfl rfl rfl rfl (Still.load rfl rfl Tryz.isAgg3 (fun w hs => own_at (hs.own (i := 2) rfl) (nints_get hq4))) ?_
                  refine RunG.still rfl rfl rfl rfl (Still.indexOwn rfl rfl rfl Tryz.underlying36 Tryz.sizeOf3 (fun _ hs => hs.own (i := 1) rfl) (by omega)) ?_
                  refine RunG.still rfl rfl rfl rfl (Still.load rfl rfl Tryz.isAgg3 (fun w hs => own_at (hs.own (i := 1) rfl) (ints_get (getD_get' (by omega))))) ?_
                  refine RunG.grows rfl rfl rfl rfl (Grows.call (vs := #[_]) rfl rfl Tryz.call46 (fun w hs => gl_sign _ w)) (fun _ _ => ?_)
                  refine RunG.still rfl rfl rfl rfl (Still.neg rfl rfl (fits64 (by omega) (by omega))) ?_
                  refine RunG.still rfl rfl rfl rfl (Still.mul rfl rfl rfl (fits64 (by omega) (by omega))) ?_
                  refine RunG.done ?_
                  show RunL _ _ _ [_] _ _
                  refine RunL.still rfl rfl rfl (Still.assign rfl rfl) ?_
                  refine RunL.nil ?_
                  refine Ends.then ?_
                  refine RunC.seq ?_
                  refine RunC.seq ?_
                  refine RunC.region ?_
                  refine RunL.still rfl rfl rfl (Still.move rfl rfl) ?_
                  refine RunL.still rfl rfl rfl (Still.fieldAddrL (off := 0) (off' := 0) rfl rfl Tryz.underlying34 rfl Tryz.sizeOf3 rfl) ?_
                  refine RunL.still rfl rfl rfl (Still.load rfl rfl Tryz.isAgg3 (fun _ hs => cell_nth (hs.at (i := 0) rfl) rfl)) ?_
                  refine RunL.still rfl rfl rfl (Still.indexOwnI (m := (fAt g u f).tet.toNat) rfl rfl rfl Tryz.underlying36 Tryz.sizeOf3 (fun _ hs => hs.own (i := 1) rfl) (by omega) (by omega)) ?_
                  refine RunL.still rfl rfl rfl (Still.load rfl rfl Tryz.isAgg3 (fun w hs => own_at (hs.own (i := 1) rfl) (ints_get (getD_get' (by omega))))) ?_
                  refine RunL.still rfl rfl rfl (Still.eql rfl rfl rfl) ?_
                  refine RunL.nil ?_
                  refine Ends.then ?_
                  refine RunC.cond rfl (fun h74 => ?_) (fun h74 => ?_)
                  · have h74 := of_decide_eq_true h74
                    refine RunC.seq ?_
                    refine RunC.region ?_
                    refine RunL.still rfl rfl rfl (Still.move rfl rfl) ?_
                    refine RunL.still rfl rfl rfl (Still.fieldAddrL (off := 0) (off' := 0) rfl rfl Tryz.underlying34 rfl Tryz.sizeOf3 rfl) ?_
                    refine RunL.still rfl rfl rfl (Still.load rfl rfl Tryz.isAgg3 (fun _ hs => cell_nth (hs.at (i := 0) rfl) rfl)) ?_
                    refine RunL.still rfl rfl rfl (Still.move rfl rfl) ?_
                    refine RunL.still rfl rfl rfl (Still.indexOwnI (m := (fAt g u f).tet.toNat) rfl rfl rfl Tryz.underlying36 Tryz.sizeOf3 (fun _ hs => hs.own (i := 1) rfl) (by omega) (by omega)) ?_
                    refine RunL.does0 rfl rfl (Does.storeOwn1 (xs' := (ints (q.1.set (fAt g u f).tet.toNat (-sgnP (fAt g u f).p * q.1.getD u 0)))) rfl rfl rfl rfl (i := 1) rfl Tryz.sizeOf3 rfl (by simp; omega) (ints_set _ _ _)) (fun _ _ => ?_)
                    refine RunL.nil ?_
                    refine Ends.then ?_
                    refine RunC.region ?_
                    refine RunL.still rfl rfl rfl (Still.move rfl rfl) ?_
                    refine RunL.still rfl rfl rfl (Still.fieldAddrL (off := 0) (off' := 0) rfl rfl Tryz.underlying34 rfl Tryz.sizeOf3 rfl) ?_
                    refine RunL.still rfl rfl rfl (Still.load rfl rfl Tryz.isAgg3 (fun _ hs => cell_nth (hs.at (i := 0) rfl) rfl)) ?_
                    refine RunL.grows rfl rfl rfl (Grows.slice1 rfl rfl Tryz.underlying36 Tryz.sizeOf3 rfl Tryz.zeroValue3 (by decide)) (fun b83 _ => ?_)
                    refine RunL.does rfl rfl rfl (Does.appendTo (n' := (q.2.length + 1)) (xs' := (nints (q.2 ++ [(fAt g u f).tet.toNat]))) (news := [_]) rfl rfl rfl rfl (i := 3) rfl Tryz.underlying36 (by kernel_rfl : (_ : Option _) = some (some (.int .i64 0), 1, 8)) rfl rfl (fun _ hs => cells_nth (hs.at (i := 0) rfl) ⟨rfl, trivial⟩) rfl rfl (by omega) (by omega) (rfl) ((congrArg (fun z => _ ++ [iv z]) (by omega)).trans (nints_snoc _ _))) (fun v84 hv84 => ?_)
                    refine RunL.still rfl rfl rfl (Still.assign rfl rfl) ?_
                    refine RunL.nil ?_
                    refine Ends.then ?_
                    refine RunC.seq ?_
                    refine RunC.region ?_
                    refine RunL.still rfl rfl rfl (Still.move rfl rfl) ?_
                    refine RunL.still rfl rfl rfl (Still.fieldAddrL (off := 0) (off' := 0) rfl rfl Tryz.underlying34 rfl Tryz.sizeOf3 rfl) ?_
                    refine RunL.still rfl rfl rfl (Still.load rfl rfl Tryz.isAgg3 (fun _ hs => cell_nth (hs.at (i := 1) rfl) rfl)) ?_
                    refine RunL.still rfl rfl rfl (Still.indexOwnI (m := (fAt g u f).tet.toNat) rfl rfl rfl Tryz.underlying36 Tryz.sizeOf3 (fun _ hs => hs.own (i := 2) rfl) (by omega) (by omega)) ?_
                    refine RunL.still rfl rfl rfl (Still.load rfl rfl Tryz.isAgg3 (fun w hs => own_at (hs.own (i := 2) rfl) (ints_get (getD_get' (by first | omega | (simp; omega)))))) ?_
                    refine RunL.still rfl rfl rfl (Still.move rfl rfl) ?_
                    refine RunL.still rfl rfl rfl (Still.neq rfl rfl rfl) ?_
                    refine RunL.nil ?_
                    refine Ends.then ?_
                    refine RunC.cond rfl (fun h91 => ?_) (fun h91 => ?_)
                    · have h91 := of_decide_eq_true h91
                      refine RunC.seq ?_
                      refine RunC.region ?_
                      refine RunL.still rfl rfl rfl (Still.assign rfl rfl) ?_
                      refine RunL.still rfl rfl rfl (Still.assign rfl rfl) ?_
                      refine RunL.still rfl rfl rfl (Still.assign rfl rfl) ?_
                      refine RunL.nil ?_
                      refine Ends.then ?_
                      refine RunC.ret ?_
                      refine Ends.block_ret ?_
                      refine Ends.then_ret ?_
                      refine Ends.then_ret ?_
                      refine Ends.block_ret ?_
                      refine Ends.block_ret ?_
                      refine Ends.then_ret ?_
                      refine Ends.then_ret ?_
                      refine Ends.block_ret ?_
                      refine Ends.block_ret ?_
                      refine Ends.then_ret ?_
                      refine Ends.then_ret ?_
                      refine Ends.block_ret ?_
                      refine Ends.then_ret ?_
                      refine Ends.leave (.inl rfl) (fun _ _ ok => results3 Tryz.results15 (Holds.tmp rfl) (Holds.tmp rfl) (Holds.tmp rfl) ok) (fun w3 hs => ?_)
                      exact absurd (getD_set_self' (by omega)) h91
                    · have h91 := of_decide_eq_false h91
                      refine RunC.skip ?_
                      refine Ends.block ?_
                      refine Ends.then ?_
                      refine RunC.region ?_
                      refine RunL.still rfl rfl rfl (Still.add rfl rfl rfl (fits64 (by omega) (by omega))) ?_
                      refine RunL.still rfl rfl rfl (Still.move rfl rfl) ?_
                      refine RunL.nil ?_
                      refine Ends.again (v84, f + 1, (q.1.set (fAt g u f).tet.toNat (-sgnP (fAt g u f).p * q.1.getD u 0), q.2 ++ [(fAt g u f).tet.toNat])) ?_ ?_ (Fr.Sub.app ?_ ?_) ?_
                      · exact ⟨by show f + 1 ≤ 4; omega, oTo_snoc hT (oFace_new h56 h74)⟩
                      · show 4 - (f + 1) < 4 - f; omega
                      · exact Fr.Sub.cons rfl (Fr.Sub.cons rfl (Fr.Sub.nil _))
                      · exact Fr.Sub.cons rfl (Fr.Sub.cons rfl (Fr.Sub.cons rfl (Fr.Sub.cons rfl (Fr.Sub.cons rfl (Fr.Sub.cons rfl (Fr.Sub.nil _))))))
                      · exact HSub.pick 2 rfl (HSub.pick 2 (by simp only [List.length_append, List.length_singleton]; rfl) (HSub.pick 2 rfl (HSub.nil _)))
                  · have h74 := of_decide_eq_false h74
                    refine RunC.skip ?_
                    refine Ends.then ?_
                    refine RunC.seq ?_
                    refine RunC.region ?_
                    refine RunL.still rfl rfl rfl (Still.move rfl rfl) ?_
                    refine RunL.still rfl rfl rfl (Still.fieldAddrL (off := 0) (off' := 0) rfl rfl Tryz.underlying34 rfl Tryz.sizeOf3 rfl) ?_
                    refine RunL.still rfl rfl rfl (Still.load rfl rfl Tryz.isAgg3 (fun _ hs => cell_nth (hs.at (i := 0) rfl) rfl)) ?_
                    refine RunL.still rfl rfl rfl (Still.indexOwnI (m := (fAt g u f).tet.toNat) rfl rfl rfl Tryz.underlying36 Tryz.sizeOf3 (fun _ hs => hs.own (i := 1) rfl) (by omega) (by omega)) ?_
                    refine RunL.still rfl rfl rfl (Still.load rfl rfl Tryz.isAgg3 (fun w hs => own_at (hs.own (i := 1) rfl) (ints_get (getD_get' (by first | omega | (simp; omega)))))) ?_
                    refine RunL.still rfl rfl rfl (Still.move rfl rfl) ?_
                    refine RunL.still rfl rfl rfl (Still.neq rfl rfl rfl) ?_
                    refine RunL.nil ?_
                    refine Ends.then ?_
                    refine RunC.cond rfl (fun h91 => ?_) (fun h91 => ?_)
                    · have h91 := of_decide_eq_true h91
                      refine RunC.seq ?_
                      refine RunC.region ?_
                      refine RunL.still rfl rfl rfl (Still.assign rfl rfl) ?_
                      refine RunL.still rfl rfl rfl (Still.assign rfl rfl) ?_
                      refine RunL.still rfl rfl rfl (Still.assign rfl rfl) ?_
                      refine RunL.nil ?_
                      refine Ends.then ?_
                      refine RunC.ret ?_
                      refine Ends.block_ret ?_
                      refine Ends.then_ret ?_
                      refine Ends.then_ret ?_
                      refine Ends.block_ret ?_
                      refine Ends.block_ret ?_
                      refine Ends.then_ret ?_
                      refine Ends.then_ret ?_
                      refine Ends.block_ret ?_
                      refine Ends.block_ret ?_
                      refine Ends.then_ret ?_
                      refine Ends.then_ret ?_
                      refine Ends.block_ret ?_
                      refine Ends.then_ret ?_
                      have hn4 := oTo_none4 hf4 hT (oFace_bad h56 h74 h91)
                      obtain ⟨k, rfl⟩ : ∃ m, k = m + 1 := ⟨k - 1, by have := (List.getElem?_eq_some_iff.1 hu).1; omega⟩
                      have hn := oriG_none (g := g) (t := t + 1) (by omega) (by rw [oAll_new hA hge, ← hM, oBfs_step hu, hn4]; rfl)
                      refine Ends.leave (.inl rfl) (fun _ _ ok => results3 Tryz.results15 (Holds.tmp rfl) (Holds.tmp rfl) (Holds.tmp rfl) ok) (fun w4 hs => ?_)
                      exact Ret.intro 0 trivial (by rw [oriV_none hn]) (by rw [oriH_none hn]; exact HSub.nil _) hs
                    · have h91 := of_decide_eq_false h91
                      refine RunC.skip ?_
                      refine Ends.block ?_
                      refine Ends.then ?_
                      refine RunC.region ?_
                      refine RunL.still rfl rfl rfl (Still.add rfl rfl rfl (fits64 (by omega) (by omega))) ?_
                      refine RunL.still rfl rfl rfl (Still.move rfl rfl) ?_
                      refine RunL.nil ?_
                      refine Ends.again (v, f + 1, q) ?_ ?_ (Fr.Sub.app ?_ ?_) ?_
                      · exact ⟨by show f + 1 ≤ 4; omega, oTo_snoc hT (oFace_same h56 h74 (Decidable.not_not.1 h91))⟩
                      · show 4 - (f + 1) < 4 - f; omega
                      · exact Fr.Sub.cons rfl (Fr.Sub.cons rfl (Fr.Sub.nil _))
                      · exact Fr.Sub.cons rfl (Fr.Sub.cons rfl (Fr.Sub.cons rfl (Fr.Sub.cons rfl (Fr.Sub.cons rfl (Fr.Sub.cons rfl (Fr.Sub.nil _))))))
                      · exact HSub.pick 1 rfl (HSub.pick 1 rfl (HSub.pick 1 rfl (HSub.nil _)))
              · have h52 := of_decide_eq_false h52
                obtain rfl : f = 4 := by omega
                refine RunC.exit ?_
                refine Ends.then_exit ?_
                refine Ends.then_exit ?_
                refine Ends.block_exit ?_
                refine Ends.block ?_
                refine Ends.then ?_
                refine RunC.region ?_
                refine RunL.still rfl rfl rfl (Still.move rfl rfl) ?_
                refine RunL.still rfl rfl rfl (Still.add rfl rfl rfl (fits64 (by omega) (by omega))) ?_
                refine RunL.still rfl rfl rfl (Still.assign rfl rfl) ?_
                refine RunL.nil ?_
                obtain ⟨k, rfl⟩ : ∃ m, k = m + 1 := ⟨k - 1, by have := (List.getElem?_eq_some_iff.1 hu).1; omega⟩
                refine Ends.again (v, q, i + 1, k) ?_ ?_ (Fr.Sub.app ?_ ?_) ?_
                · exact ⟨hO4, by rw [← hM, oBfs_step hu, hT]; rfl, by show i + 1 + k = _; omega⟩
                · exact Nat.lt_succ_self _
                · exact Fr.Sub.cons rfl (Fr.Sub.cons rfl (Fr.Sub.nil _))
                · exact Fr.Sub.cons rfl (Fr.Sub.cons rfl (Fr.Sub.cons rfl (Fr.Sub.cons rfl (Fr.Sub.nil _))))
                · exact HSub.pick 0 rfl (HSub.pick 0 rfl (HSub.pick 0 rfl (HSub.nil _)))
            ·
              refine RunY.still rfl rfl rfl rfl (Still.load rfl rfl Tryz.isAgg3 (fun w hs => own_at (hs.own (i := 1) rfl) (nints_get hu))) ?_
              refine RunY.still rfl rfl rfl rfl (Still.load rfl rfl Tryz.isAgg22 (fun _ hs => cell_nth (hs.at (i := 2) rfl) rfl)) ?_
              refine RunY.pure rfl rfl rfl rfl (fun _ => Still.indexSliceN rfl rfl rfl Tryz.underlying22 Tryz.sizeOf35 (hg.base (by omega)) (by omega)) ?_
              refine RunY.still rfl rfl rfl rfl (Still.loads rfl rfl Tryz.isAgg35 Tryz.sizeOf35 (vs := [iv (tAt g u).f0.tet, iv (tAt g u).f0.p.a0, iv (tAt g u).f0.p.a1, iv (tAt g u).f0.p.a2, iv (tAt g u).f0.p.a3, iv (tAt g u).f1.tet, iv (tAt g u).f1.p.a0, iv (tAt g u).f1.p.a1, iv (tAt g u).f1.p.a2, iv (tAt g u).f1.p.a3, iv (tAt g u).f2.tet, iv (tAt g u).f2.p.a0, iv (tAt g u).f2.p.a1, iv (tAt g u).f2.p.a2, iv (tAt g u).f2.p.a3, iv (tAt g u).f3.tet, iv (tAt g u).f3.p.a0, iv (tAt g u).f3.p.a1, iv (tAt g u).f3.p.a2, iv (tAt g u).f3.p.a3]) rfl (fun _ hs => (hg.sym hs).cell u _ (tAt_get huN))) ?_
              refine RunY.done ?_
              refine Ends.then ?_
              refine RunC.block ?_
              refine RunC.loop2 (γ := Value × Nat × BSt) (keep := [(1, _), (6, _), (9, _), (23, _), (24, _), (50, _)]) (hkeep := [_]) (fun (v, f, q) => f ≤ 4 ∧ oTo g u s f = some q) (fun (v, f, q) => 4 - f) (fun (v, f, q) => [(8, v), (51, iv f)]) (fun (v, f, q) => [HL.own 3 1 (.slice (some ⟨b21, 0, none⟩) g.length g.length) g.length (ints q.1), HL.own 3 1 v q.2.length (nints q.2)]) (v, 0, s) ⟨Nat.zero_le 4, rfl⟩ (Fr.Sub.cons rfl (Fr.Sub.cons rfl (Fr.Sub.nil _))) (Fr.Sub.cons rfl (Fr.Sub.cons rfl (Fr.Sub.cons rfl (Fr.Sub.cons rfl (Fr.Sub.cons rfl (Fr.Sub.cons rfl (Fr.Sub.nil _))))))) (HSub.pick 0 rfl (HSub.pick 0 rfl (HSub.pick 0 rfl (HSub.nil _)))) ?_
              rintro ⟨v, f, q⟩ ⟨hf, hT⟩
              have hf : f ≤ 4 := hf
              have hT : oTo g u s f = some q := hT
              obtain ⟨hO4, hz4⟩ := oTo_ok hok huN hO hzu f hf hT
              have hq4 := oTo_pre hu f hT
              have hi4 := (List.getElem?_eq_some_iff.1 hq4).1
              have hr4 := hO4.room
              have hl4 := hO4.len
              refine RunC.seq ?_
              refine RunC.region ?_
              refine RunL.still rfl rfl rfl (Still.lss rfl rfl rfl) ?_
              refine RunL.nil ?_
              refine Ends.then ?_
              refine RunC.seq ?_
              refine RunC.cond rfl (fun h52 => ?_) (fun h52 => ?_)
              · have h52 := of_decide_eq_true h52
                have hf4 : f < 4 := by omega
                refine RunC.skip ?_
                refine Ends.then ?_
                refine RunC.seq ?_
                refine RunC.block ?_
                refine RunC.seq ?_
                refine RunC.region ?_
                refine RunL.still rfl rfl rfl (Still.indexAgg rfl rfl rfl Tryz.underlying35 Tryz.sizeOf34 Tryz.isAgg34 ⟨by omega, by omega⟩ (ttV_fAt g u hf4)) ?_
                refine RunL.grows rfl rfl rfl (Grows.alloc rfl Tryz.zeroValue34) (fun b11 _ => ?_)
                refine RunL.does0 rfl rfl (Does.store rfl rfl rfl (i := 0) rfl Tryz.sizeOf34 rfl (rfl) rfl) (fun _ _ => ?_)
                refine RunL.nil ?_
                refine Ends.then ?_
                refine RunC.seq ?_
                refine RunC.seq ?_
                refine RunC.region ?_
                refine RunL.still rfl rfl rfl (Still.fieldAddrL (off := 0) (off' := 0) rfl rfl Tryz.underlying34 rfl Tryz.sizeOf3 rfl) ?_
                refine RunL.still rfl rfl rfl (Still.load rfl rfl Tryz.isAgg3 (fun _ hs => cell_nth (hs.at (i := 0) rfl) rfl)) ?_
                refine RunL.still rfl rfl rfl (Still.lss rfl rfl rfl) ?_
                refine RunL.nil ?_
                refine Ends.then ?_
                refine RunC.cond rfl (fun h56 => ?_) (fun h56 => ?_)
                · have h56 := of_decide_eq_true h56
                  refine RunC.exit ?_
                  refine Ends.then_exit ?_
                  refine Ends.block_exit ?_
                  refine Ends.then ?_
                  refine RunC.region ?_
                  refine RunL.still rfl rfl rfl (Still.add rfl rfl rfl (fits64 (by omega) (by omega))) ?_
                  refine RunL.still rfl rfl rfl (Still.move rfl rfl) ?_
                  refine RunL.nil ?_
                  refine Ends.again (v, f + 1, q) ?_ ?_ (Fr.Sub.app ?_ ?_) ?_
                  · exact ⟨by show f + 1 ≤ 4; omega, oTo_snoc hT (oFace_free h56)⟩
                  · show 4 - (f + 1) < 4 - f; omega
                  · exact Fr.Sub.cons rfl (Fr.Sub.cons rfl (Fr.Sub.nil _))
                  · exact Fr.Sub.cons rfl (Fr.Sub.cons rfl (Fr.Sub.cons rfl (Fr.Sub.cons rfl (Fr.Sub.cons rfl (Fr.Sub.cons rfl (Fr.Sub.nil _))))))
                  · exact HSub.pick 1 rfl (HSub.pick 1 rfl (HSub.pick 1 rfl (HSub.nil _)))
                · have h56 := of_decide_eq_false h56
                  have hF := okG_glued hok huN hf4 (by omega)
                  have hFl := hF.lo
                  have hFh := hF.hi
                  have hw1 := want_one hO4 (fAt g u f).p hz4
                  have hs1 := sgnP_one (fAt g u f).p
                  refine RunC.skip ?_
                  refine Ends.then ?_
                  refine RunC.seq ?_
                  refine RunC.draw 12 (.still 0 (.still 1 (.still 4 (.still 5 (.still 6 (.still 7 (.still 8 (.still 9 (.still 10 (.one 2 (.still 3 (.still 11 .done)))))))))))) (by kernel_rfl) (by kernel_rfl) ?_
                  refine RunG.still rfl rfl rfl rfl (Still.fieldAddrL (off := 0) (off' := 1) rfl rfl Tryz.underlying34 rfl Tryz.sizeOf32 rfl) ?_
                  refine RunG.still rfl rfl rfl rfl (Still.loads rfl rfl Tryz.isAgg32 Tryz.sizeOf32 (vs := [_, _, _, _]) rfl (fun _ hs => cells_nth (hs.at (i := 0) rfl) ⟨rfl, ⟨rfl, ⟨rfl, ⟨rfl, trivial⟩⟩⟩⟩)) ?_
                  refine RunG.still rfl rfl rfl rfl (Still.move rfl rfl) ?_
                  refine RunG.still rfl rfl rfl rfl (Still.move rfl rfl) ?_
                  refine RunG.still rfl rfl rfl rfl (Still.move rfl rfl) ?_
                  refine RunG.still rfl rfl rfl rfl (Still.indexOwn rfl rfl rfl Tryz.underlying36 Tryz.sizeOf3 (fun _ hs => hs.own (i := 2) rfl) (by omega)) ?_
                  refine RunG.still rfl rfl rfl rfl (Still.load rfl rfl Tryz.isAgg3 (fun w hs => own_at (hs.own (i := 2) rfl) (nints_get hq4))) ?_
                  refine RunG.still rfl rfl rfl rfl (Still.indexOwn rfl rfl rfl Tryz.underlying36 Tryz.sizeOf3 (fun _ hs => hs.own (i := 1) rfl) (by omega)) ?_
                  refine RunG.still rfl rfl rfl rfl (Still.load rfl rfl Tryz.isAgg3 (fun w hs => own_at (hs.own (i := 1) rfl) (ints_get (getD_get' (by omega))))) ?_
                  refine RunG.grows rfl rfl rfl rfl (Grows.call (vs := #[_]) rfl rfl Tryz.call46 (fun w hs => gl_sign _ w)) (fun _ _ => ?_)
                  refine RunG.still rfl rfl rfl rfl (Still.neg rfl rfl (fits64 (by omega) (by omega))) ?_
                  refine RunG.still rfl rfl rfl rfl (Still.mul rfl rfl rfl (fits64 (by omega) (by omega))) ?_
                  refine RunG.done ?_
                  show RunL _ _ _ [_] _ _
                  refine RunL.still rfl rfl rfl (Still.assign rfl rfl) ?_
                  refine RunL.nil ?_
                  refine Ends.then ?_
                  refine RunC.seq ?_
                  refine RunC.seq ?_
                  refine RunC.region ?_
                  refine RunL.still rfl rfl rfl (Still.move rfl rfl) ?_
                  refine RunL.still rfl rfl rfl (Still.fieldAddrL (off := 0) (off' := 0) rfl rfl Tryz.underlying34 rfl Tryz.sizeOf3 rfl) ?_
                  refine RunL.still rfl rfl rfl (Still.load rfl rfl Tryz.isAgg3 (fun _ hs => cell_nth (hs.at (i := 0) rfl) rfl)) ?_
                  refine RunL.still rfl rfl rfl (Still.indexOwnI (m := (fAt g u f).tet.toNat) rfl rfl rfl Tryz.underlying36 Tryz.sizeOf3 (fun _ hs => hs.own (i := 1) rfl) (by omega) (by omega)) ?_
                  refine RunL.still rfl rfl rfl (Still.load rfl rfl Tryz.isAgg3 (fun w hs => own_at (hs.own (i := 1) rfl) (ints_get (getD_get' (by omega))))) ?_
                  refine RunL.still rfl rfl rfl (Still.eql rfl rfl rfl) ?_
                  refine RunL.nil ?_
                  refine Ends.then ?_
                  refine RunC.cond rfl (fun h74 => ?_) (fun h74 => ?_)
                  · have h74 := of_decide_eq_true h74
                    refine RunC.seq ?_
                    refine RunC.region ?_
                    refine RunL.still rfl rfl rfl (Still.move rfl rfl) ?_
                    refine RunL.still rfl rfl rfl (Still.fieldAddrL (off := 0) (off' := 0) rfl rfl Tryz.underlying34 rfl Tryz.sizeOf3 rfl) ?_
                    refine RunL.still rfl rfl rfl (Still.load rfl rfl Tryz.isAgg3 (fun _ hs => cell_nth (hs.at (i := 0) rfl) rfl)) ?_
                    refine RunL.still rfl rfl rfl (Still.move rfl rfl) ?_
                    refine RunL.still rfl rfl rfl (Still.indexOwnI (m := (fAt g u f).tet.toNat) rfl rfl rfl Tryz.underlying36 Tryz.sizeOf3 (fun _ hs => hs.own (i := 1) rfl) (by omega) (by omega)) ?_
                    refine RunL.does0 rfl rfl (Does.storeOwn1 (xs' := (ints (q.1.set (fAt g u f).tet.toNat (-sgnP (fAt g u f).p * q.1.getD u 0)))) rfl rfl rfl rfl (i := 1) rfl Tryz.sizeOf3 rfl (by simp; omega) (ints_set _ _ _)) (fun _ _ => ?_)
                    refine RunL.nil ?_
                    refine Ends.then ?_
                    refine RunC.region ?_
                    refine RunL.still rfl rfl rfl (Still.move rfl rfl) ?_
                    refine RunL.still rfl rfl rfl (Still.fieldAddrL (off := 0) (off' := 0) rfl rfl Tryz.underlying34 rfl Tryz.sizeOf3 rfl) ?_
                    refine RunL.still rfl rfl rfl (Still.load rfl rfl Tryz.isAgg3 (fun _ hs => cell_nth (hs.at (i := 0) rfl) rfl)) ?_
                    refine RunL.grows rfl rfl rfl (Grows.slice1 rfl rfl Tryz.underlying36 Tryz.sizeOf3 rfl Tryz.zeroValue3 (by decide)) (fun b83 _ => ?_)
                    refine RunL.does rfl rfl rfl (Does.appendTo (n' := (q.2.length + 1)) (xs' := (nints (q.2 ++ [(fAt g u f).tet.toNat]))) (news := [_]) rfl rfl rfl rfl (i := 3) rfl Tryz.underlying36 (by kernel_rfl : (_ : Option _) = some (some (.int .i64 0), 1, 8)) rfl rfl (fun _ hs => cells_nth (hs.at (i := 0) rfl) ⟨rfl, trivial⟩) rfl rfl (by omega) (by omega) (rfl) ((congrArg (fun z => _ ++ [iv z]) (by omega)).trans (nints_snoc _ _))) (fun v84 hv84 => ?_)
                    refine RunL.still rfl rfl rfl (Still.assign rfl rfl) ?_
                    refine RunL.nil ?_
                    refine Ends.then ?_
                    refine RunC.seq ?_
                    refine RunC.region ?_
                    refine RunL.still rfl rfl rfl (Still.move rfl rfl) ?_
                    refine RunL.still rfl rfl rfl (Still.fieldAddrL (off := 0) (off' := 0) rfl rfl Tryz.underlying34 rfl Tryz.sizeOf3 rfl) ?_
                    refine RunL.still rfl rfl rfl (Still.load rfl rfl Tryz.isAgg3 (fun _ hs => cell_nth (hs.at (i := 1) rfl) rfl)) ?_
                    refine RunL.still rfl rfl rfl (Still.indexOwnI (m := (fAt g u f).tet.toNat) rfl rfl rfl Tryz.underlying36 Tryz.sizeOf3 (fun _ hs => hs.own (i := 2) rfl) (by omega) (by omega)) ?_
                    refine RunL.still rfl rfl rfl (Still.load rfl rfl Tryz.isAgg3 (fun w hs => own_at (hs.own (i := 2) rfl) (ints_get (getD_get' (by first | omega | (simp; omega)))))) ?_
                    refine RunL.still rfl rfl rfl (Still.move rfl rfl) ?_
                    refine RunL.still rfl rfl rfl (Still.neq rfl rfl rfl) ?_
                    refine RunL.nil ?_
                    refine Ends.then ?_
                    refine RunC.cond rfl (fun h91 => ?_) (fun h91 => ?_)
                    · have h91 := of_decide_eq_true h91
                      refine RunC.seq ?_
                      refine RunC.region ?_
                      refine RunL.still rfl rfl rfl (Still.assign rfl rfl) ?_
                      refine RunL.still rfl rfl rfl (Still.assign rfl rfl) ?_
                      refine RunL.still rfl rfl rfl (Still.assign rfl rfl) ?_
                      refine RunL.nil ?_
                      refine Ends.then ?_
                      refine RunC.ret ?_
                      refine Ends.block_ret ?_
                      refine Ends.then_ret ?_
                      refine Ends.then_ret ?_
                      refine Ends.block_ret ?_
                      refine Ends.block_ret ?_
                      refine Ends.then_ret ?_
                      refine Ends.then_ret ?_
                      refine Ends.block_ret ?_
                      refine Ends.block_ret ?_
                      refine Ends.then_ret ?_
                      refine Ends.then_ret ?_
                      refine Ends.block_ret ?_
                      refine Ends.then_ret ?_
                      refine Ends.leave (.inl rfl) (fun _ _ ok => results3 Tryz.results15 (Holds.tmp rfl) (Holds.tmp rfl) (Holds.tmp rfl) ok) (fun w5 hs => ?_)
                      exact absurd (getD_set_self' (by omega)) h91
                    · have h91 := of_decide_eq_false h91
                      refine RunC.skip ?_
                      refine Ends.block ?_
                      refine Ends.then ?_
                      refine RunC.region ?_
                      refine RunL.still rfl rfl rfl (Still.add rfl rfl rfl (fits64 (by omega) (by omega))) ?_
                      refine RunL.still rfl rfl rfl (Still.move rfl rfl) ?_
                      refine RunL.nil ?_
                      refine Ends.again (v84, f + 1, (q.1.set (fAt g u f).tet.toNat (-sgnP (fAt g u f).p * q.1.getD u 0), q.2 ++ [(fAt g u f).tet.toNat])) ?_ ?_ (Fr.Sub.app ?_ ?_) ?_
                      · exact ⟨by show f + 1 ≤ 4; omega, oTo_snoc hT (oFace_new h56 h74)⟩
                      · show 4 - (f + 1) < 4 - f; omega
                      · exact Fr.Sub.cons rfl (Fr.Sub.cons rfl (Fr.Sub.nil _))
                      · exact Fr.Sub.cons rfl (Fr.Sub.cons rfl (Fr.Sub.cons rfl (Fr.Sub.cons rfl (Fr.Sub.cons rfl (Fr.Sub.cons rfl (Fr.Sub.nil _))))))
                      · exact HSub.pick 2 rfl (HSub.pick 2 (by simp only [List.length_append, List.length_singleton]; rfl) (HSub.pick 2 rfl (HSub.nil _)))
                  · have h74 := of_decide_eq_false h74
                    refine RunC.skip ?_
                    refine Ends.then ?_
                    refine RunC.seq ?_
                    refine RunC.region ?_
                    refine RunL.still rfl rfl rfl (Still.move rfl rfl) ?_
                    refine RunL.still rfl rfl rfl (Still.fieldAddrL (off := 0) (off' := 0) rfl rfl Tryz.underlying34 rfl Tryz.sizeOf3 rfl) ?_
                    refine RunL.still rfl rfl rfl (Still.load rfl rfl Tryz.isAgg3 (fun _ hs => cell_nth (hs.at (i := 0) rfl) rfl)) ?_
                    refine RunL.still rfl rfl rfl (Still.indexOwnI (m := (fAt g u f).tet.toNat) rfl rfl rfl Tryz.underlying36 Tryz.sizeOf3 (fun _ hs => hs.own (i := 1) rfl) (by omega) (by omega)) ?_
                    refine RunL.still rfl rfl rfl (Still.load rfl rfl Tryz.isAgg3 (fun w hs => own_at (hs.own (i := 1) rfl) (ints_get (getD_get' (by first | omega | (simp; omega)))))) ?_
                    refine RunL.still rfl rfl rfl (Still.move rfl rfl) ?_
                    refine RunL.still rfl rfl rfl (Still.neq rfl rfl rfl) ?_
                    refine RunL.nil ?_
                    refine Ends.then ?_
                    refine RunC.cond rfl (fun h91 => ?_) (fun h91 => ?_)
                    · have h91 := of_decide_eq_true h91
                      refine RunC.seq ?_
                      refine RunC.region ?_
                      refine RunL.still rfl rfl rfl (Still.assign rfl rfl) ?_
                      refine RunL.still rfl rfl rfl (Still.assign rfl rfl) ?_
                      refine RunL.still rfl rfl rfl (Still.assign rfl rfl) ?_
                      refine RunL.nil ?_
                      refine Ends.then ?_
                      refine RunC.ret ?_
                      refine Ends.block_ret ?_
                      refine Ends.then_ret ?_
                      refine Ends.then_ret ?_
                      refine Ends.block_ret ?_
                      refine Ends.block_ret ?_
                      refine Ends.then_ret ?_
                      refine Ends.then_ret ?_
                      refine Ends.block_ret ?_
                      refine Ends.block_ret ?_
                      refine Ends.then_ret ?_
                      refine Ends.then_ret ?_
                      refine Ends.block_ret ?_
                      refine Ends.then_ret ?_
                      have hn4 := oTo_none4 hf4 hT (oFace_bad h56 h74 h91)
                      obtain ⟨k, rfl⟩ : ∃ m, k = m + 1 := ⟨k - 1, by have := (List.getElem?_eq_some_iff.1 hu).1; omega⟩
                      have hn := oriG_none (g := g) (t := t + 1) (by omega) (by rw [oAll_new hA hge, ← hM, oBfs_step hu, hn4]; rfl)
                      refine Ends.leave (.inl rfl) (fun _ _ ok => results3 Tryz.results15 (Holds.tmp rfl) (Holds.tmp rfl) (Holds.tmp rfl) ok) (fun w6 hs => ?_)
                      exact Ret.intro 0 trivial (by rw [oriV_none hn]) (by rw [oriH_none hn]; exact HSub.nil _) hs
                    · have h91 := of_decide_eq_false h91
                      refine RunC.skip ?_
                      refine Ends.block ?_
                      refine Ends.then ?_
                      refine RunC.region ?_
                      refine RunL.still rfl rfl rfl (Still.add rfl rfl rfl (fits64 (by omega) (by omega))) ?_
                      refine RunL.still rfl rfl rfl (Still.move rfl rfl) ?_
                      refine RunL.nil ?_
                      refine Ends.again (v, f + 1, q) ?_ ?_ (Fr.Sub.app ?_ ?_) ?_
                      · exact ⟨by show f + 1 ≤ 4; omega, oTo_snoc hT (oFace_same h56 h74 (Decidable.not_not.1 h91))⟩
                      · show 4 - (f + 1) < 4 - f; omega
                      · exact Fr.Sub.cons rfl (Fr.Sub.cons rfl (Fr.Sub.nil _))
                      · exact Fr.Sub.cons rfl (Fr.Sub.cons rfl (Fr.Sub.cons rfl (Fr.Sub.cons rfl (Fr.Sub.cons rfl (Fr.Sub.cons rfl (Fr.Sub.nil _))))))
                      · exact HSub.pick 1 rfl (HSub.pick 1 rfl (HSub.pick 1 rfl (HSub.nil _)))
              · have h52 := of_decide_eq_false h52
                obtain rfl : f = 4 := by omega
                refine RunC.exit ?_
                refine Ends.then_exit ?_
                refine Ends.then_exit ?_
                refine Ends.block_exit ?_
                refine Ends.block ?_
                refine Ends.then ?_
                refine RunC.region ?_
                refine RunL.still rfl rfl rfl (Still.move rfl rfl) ?_
                refine RunL.still rfl rfl rfl (Still.add rfl rfl rfl (fits64 (by omega) (by omega))) ?_
                refine RunL.still rfl rfl rfl (Still.assign rfl rfl) ?_
                refine RunL.nil ?_
                obtain ⟨k, rfl⟩ : ∃ m, k = m + 1 := ⟨k - 1, by have := (List.getElem?_eq_some_iff.1 hu).1; omega⟩
                refine Ends.again (v, q, i + 1, k) ?_ ?_ (Fr.Sub.app ?_ ?_) ?_
                · exact ⟨hO4, by rw [← hM, oBfs_step hu, hT]; rfl, by show i + 1 + k = _; omega⟩
                · exact Nat.lt_succ_self _
                · exact Fr.Sub.cons rfl (Fr.Sub.cons rfl (Fr.Sub.nil _))
                · exact Fr.Sub.cons rfl (Fr.Sub.cons rfl (Fr.Sub.cons rfl (Fr.Sub.cons rfl (Fr.Sub.nil _))))
                · exact HSub.pick 0 rfl (HSub.pick 0 rfl (HSub.pick 0 rfl (HSub.nil _)))
        · have h40 := of_decide_eq_false h40
          refine RunC.exit ?_
          refine Ends.then_exit ?_
          refine Ends.then_exit ?_
          refine Ends.block_exit ?_
          refine Ends.block ?_
          refine Ends.then ?_
          refine RunC.region ?_
          refine RunL.still rfl rfl rfl (Still.add rfl rfl rfl (fits64 (by omega) (by omega))) ?_
          refine RunL.still rfl rfl rfl (Still.move rfl rfl) ?_
          refine RunL.nil ?_
          refine Ends.again (t + 1, s.1) ?_ ?_ (Fr.Sub.app ?_ ?_) ?_
          · exact ⟨by show t + 1 ≤ _; omega, by rw [oAll_new hA hge, ← hM, oBfs_done (by omega)]; rfl⟩
          · show _ - (t + 1) < _ - t; omega
          · exact Fr.Sub.cons rfl (Fr.Sub.nil _)
          · exact Fr.Sub.cons rfl (Fr.Sub.cons rfl (Fr.Sub.cons rfl (Fr.Sub.nil _)))
          · exact HSub.pick 0 rfl (HSub.pick 1 rfl (HSub.nil _))
    · have h25 := of_decide_eq_false h25
      obtain rfl : t = g.length := by omega
      refine RunC.exit ?_
      refine Ends.then_exit ?_
      refine Ends.then_exit ?_
      refine Ends.block_exit ?_
      refine Ends.then ?_
      refine RunC.seq ?_
      refine RunC.region ?_
      refine RunL.still rfl rfl rfl (Still.move rfl rfl) ?_
      refine RunL.still rfl rfl rfl (Still.assign rfl rfl) ?_
      refine RunL.still rfl rfl rfl (Still.assign rfl rfl) ?_
      refine RunL.still rfl rfl rfl (Still.assign rfl rfl) ?_
      refine RunL.nil ?_
      refine Ends.then ?_
      refine RunC.ret ?_
      refine Ends.leave (.inl rfl) (fun _ _ ok => results3 Tryz.results15 (Holds.tmp rfl) (Holds.tmp rfl) (Holds.tmp rfl) ok) (fun w7 hs => ?_)
      exact Ret.intro b21 trivial (by rw [oriV_some hA]; try rfl) (by rw [oriH_some hA]; exact HSub.pick 0 rfl (HSub.nil _)) hs

end Go.Proofs
/- Unions of gluings: contracts of both texts. -/
namespace Go.Proofs
open Go Go.V
set_option maxRecDepth 20000
theorem gl_Clone_some (B A : Addr) (cap : Nat) (g : Glu) (w : World) (hg : GluAt w (some B) A g) (h1000 : g.length ≤ 1000) : Gives Tryz.prog 54 #[.slice (some B) g.length cap] w Nil (fun v : Value => Shape v g.length) (fun v => v) (fun v => [HL.own 35 20 v g.length (g.flatMap encT)]) := by
  refine fn_of_run (S := Nil) (args := [.slice (some B) g.length cap]) (n := 8) (L := []) Tryz.func54 rfl Tryz.ntmps54 (Nat.le_of_ble_eq_true rfl) (Sym.nil _ _) ?_
  change RunC _ _ _ [(0, _)] _
  refine RunC.seq ?_
  refine RunC.region ?_
  refine RunL.still rfl rfl rfl (Still.assign rfl rfl) ?_
  refine RunL.nil ?_
  refine Ends.then ?_
  refine RunC.seq ?_
  refine RunC.seq ?_
  refine RunC.region ?_
  refine RunL.still rfl rfl rfl (Still.move rfl rfl) ?_
  refine RunL.still rfl rfl rfl (Still.eqlNil rfl rfl rfl Tryz.underlying22) ?_
  refine RunL.nil ?_
  refine Ends.then ?_
  refine RunC.cond rfl (fun h4 => ?_) (fun h4 => ?_)
  · skip
    exact absurd h4 (by simp)
  · skip
    refine RunC.skip ?_
    refine Ends.then ?_
    refine RunC.seq ?_
    refine RunC.region ?_
    refine RunL.grows rfl rfl rfl (Grows.empty rfl Tryz.underlying22 Tryz.sizeOf35 Tryz.zeroValue35) (fun b5 _ => ?_)
    refine RunL.still rfl rfl rfl (Still.move rfl rfl) ?_
    refine RunL.does rfl rfl rfl (Does.appendAny (n' := g.length) (xs' := (g.flatMap encT)) (news := (g.flatMap encT)) rfl rfl rfl rfl (fun h0 => hg.base h0) (i := 0) rfl Tryz.underlying22 (by kernel_rfl : Tryz.prog.info? 35 = some Tryz.t35) (by kernel_rfl : (_ : Option _) = some (some (.agg #[.int .i64 0, .int .i64 0, .int .i64 0, .int .i64 0, .int .i64 0, .int .i64 0, .int .i64 0, .int .i64 0, .int .i64 0, .int .i64 0, .int .i64 0, .int .i64 0, .int .i64 0, .int .i64 0, .int .i64 0, .int .i64 0, .int .i64 0, .int .i64 0, .int .i64 0, .int .i64 0]), 20, 160)) rfl rfl (fun w hs => hg.cells.base0 hs) (flat_len encT_len _) (encT_one _) (by omega) (by omega) (Nat.zero_add _) (rfl)) (fun v7 hv7 => ?_)
    refine RunL.still rfl rfl rfl (Still.assign rfl rfl) ?_
    refine RunL.nil ?_
    refine Ends.then ?_
    refine RunC.ret ?_
    refine Ends.leave (.inl rfl) (fun _ _ ok => results1 Tryz.results54 (Holds.tmp rfl) ok) (fun w1 hs => ?_)
    exact Ret.intro v7 (own_shape (hs.own (i := 0) rfl)) rfl (HSub.pick 0 rfl (HSub.nil _)) hs

theorem gl_Clone_none (cap : Nat) (g : Glu) (w : World) (h0 : g = []) : Gives Tryz.prog 54 #[.slice none g.length cap] w Nil (fun v : Value => Shape v g.length) (fun v => v) (fun v => [HL.own 35 20 v g.length (g.flatMap encT)]) := by
  refine fn_of_run (S := Nil) (args := [.slice none g.length cap]) (n := 8) (L := []) Tryz.func54 rfl Tryz.ntmps54 (Nat.le_of_ble_eq_true rfl) (Sym.nil _ _) ?_
  change RunC _ _ _ [(0, _)] _
  refine RunC.seq ?_
  refine RunC.region ?_
  refine RunL.still rfl rfl rfl (Still.assign rfl rfl) ?_
  refine RunL.nil ?_
  refine Ends.then ?_
  refine RunC.seq ?_
  refine RunC.seq ?_
  refine RunC.region ?_
  refine RunL.still rfl rfl rfl (Still.move rfl rfl) ?_
  refine RunL.still rfl rfl rfl (Still.eqlNil rfl rfl rfl Tryz.underlying22) ?_
  refine RunL.nil ?_
  refine Ends.then ?_
  refine RunC.cond rfl (fun h4 => ?_) (fun h4 => ?_)
  · skip
    refine RunC.seq ?_
    refine RunC.region ?_
    refine RunL.still rfl rfl rfl (Still.assign rfl rfl) ?_
    refine RunL.nil ?_
    refine Ends.then ?_
    refine RunC.ret ?_
    refine Ends.then_ret ?_
    refine Ends.leave (.inl rfl) (fun _ _ ok => results1 Tryz.results54 (Holds.tmp rfl) ok) (fun w1 hs => ?_)
    exact Ret.intro (.slice none 0 0) (by rw [h0]; exact ⟨none, 0, rfl, fun h => absurd h (by decide)⟩) rfl (HSub.pick 0 (by rw [h0]; rfl) (HSub.nil _)) (hs.own_nil 35 20)
  · skip
    exact absurd h4 (by decide)

theorem gl_Clone (base : Option Addr) (A : Addr) (cap : Nat) (g : Glu) (w : World) (hg : GluAt w base A g) (h1000 : g.length ≤ 1000) : Gives Tryz.prog 54 #[.slice base g.length cap] w Nil (fun v : Value => Shape v g.length) (fun v => v) (fun v => [HL.own 35 20 v g.length (g.flatMap encT)]) := by
  cases base with
  | some B => exact gl_Clone_some B A cap g w hg h1000
  | none =>
    refine gl_Clone_none cap g w ?_
    rcases Nat.eq_zero_or_pos g.length with h0 | h0
    · exact List.length_eq_zero_iff.1 h0
    · exact absurd (hg.base h0) (by simp)

theorem gl_shifted (base : Option Addr) (A : Addr) (cap : Nat) (g : Glu) (k : Nat) (w : World) (hg : GluAt w base A g) (hk : k ≤ 1000) (hok : okG g = true) : Gives Tryz.prog 55 #[gluV base cap g, iv (k : Int)] w Nil (fun v : Value => Shape v g.length) (fun v => v) (fun v => [HL.own 35 20 v g.length ((g.map fun t => mapF t (shF k)).flatMap encT)]) := by
  have h1000 := okG_len hok
  refine fn_of_run (S := Nil) (args := [gluV base cap g, iv (k : Int)]) (n := 39) (L := []) Tryz.func55 rfl Tryz.ntmps55 (Nat.le_of_ble_eq_true rfl) (Sym.nil _ _) ?_
  change RunC _ _ _ [(0, _), (1, _)] _
  refine RunC.seq ?_
  refine RunC.region ?_
  refine RunL.grows rfl rfl rfl (Grows.box rfl rfl) (fun b2 _ => ?_)
  refine RunL.still rfl rfl rfl (Still.assign rfl rfl) ?_
  refine RunL.nil ?_
  refine Ends.then ?_
  refine RunC.seq ?_
  refine RunC.region ?_
  refine RunL.still rfl rfl rfl (Still.assign rfl rfl) ?_
  refine RunL.own_nil 35 20 ?_
  refine RunL.nil ?_
  refine Ends.then ?_
  refine RunC.seq ?_
  refine RunC.seq ?_
  refine RunC.region ?_
  refine RunL.still rfl rfl rfl (Still.fieldAddrL (off := 0) (off' := 0) rfl rfl Tryz.underlying24 rfl Tryz.sizeOf22 rfl) ?_
  refine RunL.still rfl rfl rfl (Still.load rfl rfl Tryz.isAgg22 (fun _ hs => cell_nth (hs.at (i := 1) rfl) rfl)) ?_
  refine RunL.still rfl rfl rfl (Still.lenSlice rfl rfl Tryz.underlying22) ?_
  refine RunL.still rfl rfl rfl (Still.move rfl rfl) ?_
  refine RunL.nil ?_
  refine Ends.then ?_
  refine RunC.block ?_
  refine RunC.loop2 (γ := Value × Nat) (keep := [(1, _), (10, _), (11, _)]) (hkeep := [_]) (fun (v, t) => t ≤ g.length) (fun (v, t) => g.length - t) (fun (v, t) => [(5, v), (12, iv t)]) (fun (v, t) => [HL.own 35 20 v t (((g.take t).map (fun t => mapF t (shF k))).flatMap encT)]) (.slice none 0 0, 0) (by omega) (Fr.Sub.cons rfl (Fr.Sub.cons rfl (Fr.Sub.nil _))) (Fr.Sub.cons rfl (Fr.Sub.cons rfl (Fr.Sub.cons rfl (Fr.Sub.nil _)))) (HSub.pick 0 rfl (HSub.pick 0 rfl (HSub.nil _))) ?_
  rintro ⟨v, t⟩ ht
  have ht : t ≤ g.length := ht
  refine RunC.seq ?_
  refine RunC.region ?_
  refine RunL.still rfl rfl rfl (Still.lss rfl rfl rfl) ?_
  refine RunL.nil ?_
  refine Ends.then ?_
  refine RunC.seq ?_
  refine RunC.cond rfl (fun h13 => ?_) (fun h13 => ?_)
  · have h13 := of_decide_eq_true h13
    have htN : t < g.length := by omega
    obtain ⟨x, hx⟩ := get_of_lt (l := g) (i := t) htN
    refine RunC.skip ?_
    refine Ends.then ?_
    refine RunC.seq ?_
    refine RunC.block ?_
    refine RunC.seq ?_
    refine RunC.region ?_
    refine RunL.still rfl rfl rfl (Still.indexSliceN rfl rfl rfl Tryz.underlying22 Tryz.sizeOf35 (hg.base (by omega)) (by omega)) ?_
    refine RunL.still rfl rfl rfl (Still.loads rfl rfl Tryz.isAgg35 Tryz.sizeOf35 (vs := [iv x.f0.tet, iv x.f0.p.a0, iv x.f0.p.a1, iv x.f0.p.a2, iv x.f0.p.a3, iv x.f1.tet, iv x.f1.p.a0, iv x.f1.p.a1, iv x.f1.p.a2, iv x.f1.p.a3, iv x.f2.tet, iv x.f2.p.a0, iv x.f2.p.a1, iv x.f2.p.a2, iv x.f2.p.a3, iv x.f3.tet, iv x.f3.p.a0, iv x.f3.p.a1, iv x.f3.p.a2, iv x.f3.p.a3]) rfl (fun _ hs => (hg.sym hs).cell t x hx)) ?_
    refine RunL.grows rfl rfl rfl (Grows.alloc rfl Tryz.zeroValue35) (fun b7 _ => ?_)
    refine RunL.does0 rfl rfl (Does.store rfl rfl rfl (i := 0) rfl Tryz.sizeOf35 rfl (rfl) rfl) (fun _ _ => ?_)
    refine RunL.conv (fun _ hs => hs.re 0 rfl (show _ = HL.obj b7 (.cells (ttA x) 35 (0, 0)) from congrArg (fun z => HL.obj b7 (.cells z 35 (0, 0))) (putT x))) ?_
    refine RunL.nil ?_
    refine Ends.then ?_
    refine RunC.seq ?_
    refine RunC.seq ?_
    refine RunC.region ?_
    refine RunL.still rfl rfl rfl (Still.move rfl rfl) ?_
    refine RunL.nil ?_
    refine Ends.then ?_
    refine RunC.block ?_
    refine RunC.loop2 (γ := Nat) (keep := [(1, _), (5, _), (7, _), (10, _), (11, _), (12, _)]) (hkeep := [_, _]) (fun f => f ≤ 4) (fun f => 4 - f) (fun f => [(16, iv f)]) (fun f => [HL.obj b7 (.cells (ttA (chTo (shF k) x f)) 35 (0, 0))]) 0 (by omega) (Fr.Sub.cons rfl (Fr.Sub.nil _)) (Fr.Sub.cons rfl (Fr.Sub.cons rfl (Fr.Sub.cons rfl (Fr.Sub.cons rfl (Fr.Sub.cons rfl (Fr.Sub.cons rfl (Fr.Sub.nil _))))))) (HSub.pick 0 rfl (HSub.pick 0 rfl (HSub.pick 0 rfl (HSub.nil _)))) ?_
    rintro f hf
    refine RunC.seq ?_
    refine RunC.region ?_
    refine RunL.still rfl rfl rfl (Still.lss rfl rfl rfl) ?_
    refine RunL.nil ?_
    refine Ends.then ?_
    refine RunC.seq ?_
    refine RunC.cond rfl (fun h17 => ?_) (fun h17 => ?_)
    · have h17 := of_decide_eq_true h17
      have hf4 : f < 4 := by omega
      have hxf := okG_tet hok htN hf4
      rw [fAt_of hx] at hxf
      refine RunC.skip ?_
      refine Ends.then ?_
      refine RunC.seq ?_
      refine RunC.block ?_
      refine RunC.seq ?_
      refine RunC.region ?_
      refine RunL.still rfl rfl rfl (Still.move rfl rfl) ?_
      refine RunL.still rfl rfl rfl (Still.assign rfl rfl) ?_
      refine RunL.nil ?_
      refine Ends.then ?_
      refine RunC.seq ?_
      refine RunC.region ?_
      refine RunL.still rfl rfl rfl (Still.move rfl rfl) ?_
      refine RunL.still rfl rfl rfl (Still.indexArrNL rfl rfl rfl Tryz.underlying35 Tryz.sizeOf34 (by omega)) ?_
      refine RunL.still rfl rfl rfl (Still.fieldAddrL rfl rfl Tryz.underlying34 rfl Tryz.sizeOf3 rfl) ?_
      refine RunL.still rfl rfl rfl (Still.load (v := iv (x.at f).tet) rfl rfl Tryz.isAgg3 (fun _ hs => cell_nth (hs.at (i := 0) rfl) (nth_chTo _ _ hf4))) ?_
      refine RunL.still rfl rfl rfl (Still.geq rfl rfl rfl) ?_
      refine RunL.nil ?_
      refine Ends.then ?_
      refine RunC.cond rfl (fun h23 => ?_) (fun h23 => ?_)
      · have h23 := of_decide_eq_true h23
        refine RunC.region ?_
        refine RunL.still rfl rfl rfl (Still.move rfl rfl) ?_
        refine RunL.still rfl rfl rfl (Still.indexArrNL rfl rfl rfl Tryz.underlying35 Tryz.sizeOf34 (by omega)) ?_
        refine RunL.still rfl rfl rfl (Still.fieldAddrL rfl rfl Tryz.underlying34 rfl Tryz.sizeOf3 rfl) ?_
        refine RunL.still rfl rfl rfl (Still.load (v := iv (x.at f).tet) rfl rfl Tryz.isAgg3 (fun _ hs => cell_nth (hs.at (i := 0) rfl) (nth_chTo _ _ hf4))) ?_
        refine RunL.still rfl rfl rfl (Still.move rfl rfl) ?_
        refine RunL.still rfl rfl rfl (Still.add rfl rfl rfl (fits64 (by omega) (by omega))) ?_
        refine RunL.still rfl rfl rfl (Still.indexArrNL rfl rfl rfl Tryz.underlying35 Tryz.sizeOf34 (by omega)) ?_
        refine RunL.still rfl rfl rfl (Still.fieldAddrL rfl rfl Tryz.underlying34 rfl Tryz.sizeOf3 rfl) ?_
        refine RunL.does0 rfl rfl (Does.store1 rfl rfl rfl (i := 0) rfl Tryz.sizeOf3 rfl (Nat.ble_eq_true_of_le (show 0 + f * 5 + 0 + 1 ≤ 20 by omega))) (fun _ _ => ?_)
        refine RunL.conv (fun _ hs => hs.re 0 rfl (show _ = HL.obj b7 (.cells (ttA (chTo (shF k) x (f + 1))) 35 (0, 0)) from congrArg (fun z => HL.obj b7 (.cells z 35 (0, 0))) (chTo_tet hf4 (by rw [shF, if_pos h23])))) ?_
        refine RunL.nil ?_
        refine Ends.block ?_
        refine Ends.then ?_
        refine RunC.region ?_
        refine RunL.still rfl rfl rfl (Still.add rfl rfl rfl (fits64 (by omega) (by omega))) ?_
        refine RunL.still rfl rfl rfl (Still.move rfl rfl) ?_
        refine RunL.nil ?_
        refine Ends.again (f + 1) ?_ ?_ (Fr.Sub.app ?_ ?_) ?_
        · show _; omega
        · show _ < _; omega
        · exact Fr.Sub.cons rfl (Fr.Sub.nil _)
        · exact Fr.Sub.cons rfl (Fr.Sub.cons rfl (Fr.Sub.cons rfl (Fr.Sub.cons rfl (Fr.Sub.cons rfl (Fr.Sub.cons rfl (Fr.Sub.nil _))))))
        · exact HSub.pick 0 rfl (HSub.pick 0 rfl (HSub.pick 0 rfl (HSub.nil _)))
      · have h23 := of_decide_eq_false h23
        refine RunC.skip ?_
        refine Ends.block ?_
        refine Ends.then ?_
        refine RunC.region ?_
        refine RunL.still rfl rfl rfl (Still.add rfl rfl rfl (fits64 (by omega) (by omega))) ?_
        refine RunL.still rfl rfl rfl (Still.move rfl rfl) ?_
        refine RunL.nil ?_
        refine Ends.again (f + 1) ?_ ?_ (Fr.Sub.app ?_ ?_) ?_
        · show _; omega
        · show _ < _; omega
        · exact Fr.Sub.cons rfl (Fr.Sub.nil _)
        · exact Fr.Sub.cons rfl (Fr.Sub.cons rfl (Fr.Sub.cons rfl (Fr.Sub.cons rfl (Fr.Sub.cons rfl (Fr.Sub.cons rfl (Fr.Sub.nil _))))))
        · exact HSub.pick 0 (by rw [chTo_keep hf4 (by rw [shF, if_neg h23])]; rfl) (HSub.pick 0 rfl (HSub.pick 0 rfl (HSub.nil _)))
    · have h17 := of_decide_eq_false h17
      obtain rfl : f = 4 := by omega
      refine RunC.exit ?_
      refine Ends.then_exit ?_
      refine Ends.then_exit ?_
      refine Ends.block_exit ?_
      refine Ends.then ?_
      refine RunC.conv (fun _ hs => hs.re 0 rfl (show _ = HL.obj b7 (.cells (ttV (mapF x (shF k))).cells 35 (0, 0)) by rw [chTo_four]; rfl)) ?_
      refine RunC.region ?_
      refine RunL.still rfl rfl rfl (Still.move rfl rfl) ?_
      refine RunL.still rfl rfl rfl (Still.loads rfl rfl Tryz.isAgg35 Tryz.sizeOf35 (vs := [_, _, _, _, _, _, _, _, _, _, _, _, _, _, _, _, _, _, _, _]) rfl (fun _ hs => cells_nth (hs.at (i := 0) rfl) ⟨rfl, ⟨rfl, ⟨rfl, ⟨rfl, ⟨rfl, ⟨rfl, ⟨rfl, ⟨rfl, ⟨rfl, ⟨rfl, ⟨rfl, ⟨rfl, ⟨rfl, ⟨rfl, ⟨rfl, ⟨rfl, ⟨rfl, ⟨rfl, ⟨rfl, ⟨rfl, trivial⟩⟩⟩⟩⟩⟩⟩⟩⟩⟩⟩⟩⟩⟩⟩⟩⟩⟩⟩⟩)) ?_
      refine RunL.grows rfl rfl rfl (Grows.slice1 rfl rfl Tryz.underlying22 Tryz.sizeOf35 rfl Tryz.zeroValue35 (by decide)) (fun b35 _ => ?_)
      refine RunL.does rfl rfl rfl (Does.appendTo (n' := (t + 1)) (xs' := ((((g.take t).map (fun t => mapF t (shF k))) ++ [mapF x (shF k)]).flatMap encT)) (news := [_, _, _, _, _, _, _, _, _, _, _, _, _, _, _, _, _, _, _, _]) rfl rfl rfl rfl (i := 2) rfl Tryz.underlying22 (by kernel_rfl : (_ : Option _) = some (some (.agg #[.int .i64 0, .int .i64 0, .int .i64 0, .int .i64 0, .int .i64 0, .int .i64 0, .int .i64 0, .int .i64 0, .int .i64 0, .int .i64 0, .int .i64 0, .int .i64 0, .int .i64 0, .int .i64 0, .int .i64 0, .int .i64 0, .int .i64 0, .int .i64 0, .int .i64 0, .int .i64 0]), 20, 160)) rfl rfl (fun _ hs => cells_nth (hs.at (i := 0) rfl) ⟨rfl, ⟨rfl, ⟨rfl, ⟨rfl, ⟨rfl, ⟨rfl, ⟨rfl, ⟨rfl, ⟨rfl, ⟨rfl, ⟨rfl, ⟨rfl, ⟨rfl, ⟨rfl, ⟨rfl, ⟨rfl, ⟨rfl, ⟨rfl, ⟨rfl, ⟨rfl, trivial⟩⟩⟩⟩⟩⟩⟩⟩⟩⟩⟩⟩⟩⟩⟩⟩⟩⟩⟩⟩) rfl rfl (by omega) (by omega) (rfl) (flatT_snoc _ _)) (fun v36 hv36 => ?_)
      refine RunL.still rfl rfl rfl (Still.assign rfl rfl) ?_
      refine RunL.nil ?_
      refine Ends.block ?_
      refine Ends.then ?_
      refine RunC.region ?_
      refine RunL.still rfl rfl rfl (Still.add rfl rfl rfl (fits64 (by omega) (by omega))) ?_
      refine RunL.still rfl rfl rfl (Still.move rfl rfl) ?_
      refine RunL.nil ?_
      refine Ends.again (v36, t + 1) ?_ ?_ (Fr.Sub.app ?_ ?_) ?_
      · show t + 1 ≤ _; omega
      · show _ - (t + 1) < _ - t; omega
      · exact Fr.Sub.cons rfl (Fr.Sub.cons rfl (Fr.Sub.nil _))
      · exact Fr.Sub.cons rfl (Fr.Sub.cons rfl (Fr.Sub.cons rfl (Fr.Sub.nil _)))
      · exact HSub.pick 2 (by rw [List.take_add_one, hx]; simp only [Option.toList_some, List.map_append, List.map_cons, List.map_nil]; rfl) (HSub.pick 2 rfl (HSub.nil _))
  · have h13 := of_decide_eq_false h13
    obtain rfl : t = g.length := by omega
    refine RunC.exit ?_
    refine Ends.then_exit ?_
    refine Ends.then_exit ?_
    refine Ends.block_exit ?_
    refine Ends.then ?_
    refine RunC.seq ?_
    refine RunC.region ?_
    refine RunL.still rfl rfl rfl (Still.move rfl rfl) ?_
    refine RunL.still rfl rfl rfl (Still.assign rfl rfl) ?_
    refine RunL.nil ?_
    refine Ends.then ?_
    refine RunC.ret ?_
    refine Ends.leave (.inl rfl) (fun _ _ ok => results1 Tryz.results55 (Holds.tmp rfl) ok) (fun w1 hs => ?_)
    exact Ret.intro v (own_shape (hs.own (i := 0) rfl)) rfl (HSub.pick 0 (by show some (HL.own 35 20 v g.length (((g.take g.length).map _).flatMap encT)) = _; rw [List.take_length]) (HSub.nil _)) hs

theorem uniG_len (a b : Glu) : (uniG a b).length = a.length + b.length := by simp [uniG]

theorem gl_Union_ok (ba : Option Addr) (A : Addr) (ca : Nat) (a : Glu) (bb : Option Addr) (B : Addr) (cb : Nat) (b : Glu) (w : World) (hga : GluAt w ba A a) (hgb : GluAt w bb B b) (ha : okG a = true) (hb : okG b = true) (hl : a.length + b.length ≤ 1000) : Gives Tryz.prog 22 #[gluV ba ca a, gluV bb cb b] w Nil (fun q : Option Addr × Nat => OKB q (uniG a b).length) (fun q => .tuple #[gluV q.1 q.2 (uniG a b), iv 0]) (fun q => [ownG q (uniG a b)]) := by
  have a1000 := okG_len ha
  have b1000 := okG_len hb
  refine fn_of_run (S := Nil) (args := [gluV ba ca a, gluV bb cb b]) (n := 36) (L := []) Tryz.func22 rfl Tryz.ntmps22 (Nat.le_of_ble_eq_true rfl) (Sym.nil _ _) ?_
  change RunC _ _ _ [(0, _), (1, _)] _
  refine RunC.seq ?_
  refine RunC.region ?_
  refine RunL.grows rfl rfl rfl (Grows.box rfl rfl) (fun b2 _ => ?_)
  refine RunL.grows rfl rfl rfl (Grows.box rfl rfl) (fun b3 _ => ?_)
  refine RunL.grows rfl rfl rfl (Grows.alloc rfl Tryz.zeroValue24) (fun b4 _ => ?_)
  refine RunL.still rfl rfl rfl (Still.assign rfl rfl) ?_
  refine RunL.nil ?_
  refine Ends.then ?_
  refine RunC.seq ?_
  refine RunC.block ?_
  refine RunC.seq ?_
  refine RunC.region ?_
  refine RunL.still rfl rfl rfl (Still.loads rfl rfl Tryz.isAgg24 Tryz.sizeOf24 (vs := [_]) rfl (fun _ hs => cells_nth (hs.at (i := 2) rfl) ⟨rfl, trivial⟩)) ?_
  refine RunL.grows rfl rfl rfl (Grows.call (vs := #[_]) rfl rfl Tryz.call14 (fun w hs => gl_Check ba A ca a w (hga.sym hs))) (fun _ _ => ?_)
  refine RunL.still rfl rfl rfl (Still.neq rfl rfl rfl) ?_
  refine RunL.still rfl rfl rfl (Still.move rfl rfl) ?_
  refine RunL.split (t := 10) rfl (fun h10 => ?_) (fun h10 => ?_)
  · have h10 := of_decide_eq_true h10
    exact absurd (chkG_ok ha) h10
  · skip
    refine RunL.still rfl rfl rfl (Still.loads rfl rfl Tryz.isAgg24 Tryz.sizeOf24 (vs := [_]) rfl (fun _ hs => cells_nth (hs.at (i := 1) rfl) ⟨rfl, trivial⟩)) ?_
    refine RunL.grows rfl rfl rfl (Grows.call (vs := #[_]) rfl rfl Tryz.call14 (fun w hs => gl_Check bb B cb b w (hgb.sym hs))) (fun _ _ => ?_)
    refine RunL.still rfl rfl rfl (Still.neq rfl rfl rfl) ?_
    refine RunL.still rfl rfl rfl (Still.pickF rfl rfl rfl) ?_
    refine RunL.still rfl rfl rfl (Still.assign rfl rfl) ?_
    refine RunL.nil ?_
    refine Ends.then ?_
    refine RunC.cond rfl (fun h6 => ?_) (fun h6 => ?_)
    · have h6 := of_decide_eq_true h6
      exact absurd (chkG_ok hb) h6
    · skip
      refine RunC.seq ?_
      refine RunC.region ?_
      refine RunL.still rfl rfl rfl (Still.fieldAddrL (off := 0) (off' := 0) rfl rfl Tryz.underlying24 rfl Tryz.sizeOf22 rfl) ?_
      refine RunL.still rfl rfl rfl (Still.load rfl rfl Tryz.isAgg22 (fun _ hs => cell_nth (hs.at (i := 2) rfl) rfl)) ?_
      refine RunL.still rfl rfl rfl (Still.lenSlice rfl rfl Tryz.underlying22) ?_
      refine RunL.still rfl rfl rfl (Still.fieldAddrL (off := 0) (off' := 0) rfl rfl Tryz.underlying24 rfl Tryz.sizeOf22 rfl) ?_
      refine RunL.still rfl rfl rfl (Still.load rfl rfl Tryz.isAgg22 (fun _ hs => cell_nth (hs.at (i := 1) rfl) rfl)) ?_
      refine RunL.still rfl rfl rfl (Still.lenSlice rfl rfl Tryz.underlying22) ?_
      refine RunL.still rfl rfl rfl (Still.add rfl rfl rfl (fits64 (by omega) (by omega))) ?_
      refine RunL.still rfl rfl rfl (Still.gtr rfl rfl rfl) ?_
      refine RunL.still rfl rfl rfl (Still.assign rfl rfl) ?_
      refine RunL.nil ?_
      refine Ends.then ?_
      refine RunC.cond rfl (fun h16 => ?_) (fun h16 => ?_)
      · have h16 := of_decide_eq_true h16
        omega
      · have h16 := of_decide_eq_false h16
        refine RunC.skip ?_
        refine Ends.block ?_
        refine Ends.then ?_
        refine RunC.seq ?_
        refine RunC.draw 7 (.still 0 (.still 1 (.still 3 (.still 4 (.still 5 (.still 6 (.one 2 .done))))))) (by kernel_rfl) (by kernel_rfl) ?_
        refine RunG.still rfl rfl rfl rfl (Still.fieldAddrL (off := 0) (off' := 0) rfl rfl Tryz.underlying24 rfl Tryz.sizeOf22 rfl) ?_
        refine RunG.still rfl rfl rfl rfl (Still.load rfl rfl Tryz.isAgg22 (fun _ hs => cell_nth (hs.at (i := 2) rfl) rfl)) ?_
        refine RunG.still rfl rfl rfl rfl (Still.loads rfl rfl Tryz.isAgg24 Tryz.sizeOf24 (vs := [_]) rfl (fun _ hs => cells_nth (hs.at (i := 1) rfl) ⟨rfl, trivial⟩)) ?_
        refine RunG.still rfl rfl rfl rfl (Still.fieldAddrL (off := 0) (off' := 0) rfl rfl Tryz.underlying24 rfl Tryz.sizeOf22 rfl) ?_
        refine RunG.still rfl rfl rfl rfl (Still.load rfl rfl Tryz.isAgg22 (fun _ hs => cell_nth (hs.at (i := 2) rfl) rfl)) ?_
        refine RunG.still rfl rfl rfl rfl (Still.lenSlice rfl rfl Tryz.underlying22) ?_
        refine RunG.grows rfl rfl rfl rfl (Grows.call (vs := #[_]) rfl rfl Tryz.call54 (fun w hs => gl_Clone ba A ca a w (hga.sym hs) (by omega))) (fun v28 hv28 => ?_)
        refine RunG.done ?_
        show RunL _ _ _ [_, _, _, _, _] _ _
        refine RunL.grows rfl rfl rfl (Grows.call (vs := #[_, _]) rfl rfl Tryz.call55 (fun w hs => gl_shifted bb B cb b a.length w (hgb.sym hs) (by omega) hb)) (fun v33 hv33 => ?_)
        obtain ⟨sb, sc, hvs, hsb⟩ := hv33
        subst hvs
        refine RunL.does rfl rfl rfl (Does.appendAny (n' := (a.length + b.length)) (xs' := ((uniG a b).flatMap encT)) (news := ((b.map fun t => mapF t (shF (a.length : Int))).flatMap encT)) rfl rfl rfl rfl (hsb) (i := 1) rfl Tryz.underlying22 (by kernel_rfl : Tryz.prog.info? 35 = some Tryz.t35) (by kernel_rfl : (_ : Option _) = some (some (.agg #[.int .i64 0, .int .i64 0, .int .i64 0, .int .i64 0, .int .i64 0, .int .i64 0, .int .i64 0, .int .i64 0, .int .i64 0, .int .i64 0, .int .i64 0, .int .i64 0, .int .i64 0, .int .i64 0, .int .i64 0, .int .i64 0, .int .i64 0, .int .i64 0, .int .i64 0, .int .i64 0]), 20, 160)) rfl rfl (fun w hs => own_all (hs.own (i := 0) rfl)) (by rw [flat_len encT_len, List.length_map]) (encT_one _) (by omega) (by omega) (rfl) ((by rw [uniG, List.flatMap_append]))) (fun v34 hv34 => ?_)
        refine RunL.know (fun _ hs => own_shape (hs.own (i := 1) rfl)) (fun hsh2 => ?_)
        obtain ⟨vb, vc, hvv, hvb⟩ := hsh2
        subst hvv
        refine RunL.still rfl rfl rfl (Still.build_1 (fun x0_0 => .agg #[x0_0]) rfl rfl (fun _ => by kernel_rfl)) ?_
        refine RunL.does0 rfl rfl (Does.store rfl rfl rfl (i := 2) rfl Tryz.sizeOf24 rfl (rfl) rfl) (fun _ _ => ?_)
        refine RunL.still rfl rfl rfl (Still.assign rfl rfl) ?_
        refine RunL.nil ?_
        refine Ends.then ?_
        refine RunC.ret ?_
        skip
        refine Ends.leave (.inl rfl) (fun _ _ ok => results2 Tryz.results22 (Holds.cell rfl (fun _ hs => load_cells (vs := [_]) Tryz.isAgg24 Tryz.sizeOf24 rfl (cells_nth (hs.at (i := 2) rfl) ⟨rfl, trivial⟩))) (Holds.tmp rfl) ok) (fun w1 hs => ?_)
        exact Ret.intro (vb, vc) (by rw [OKB, uniG_len]; exact hvb) (by show _ = Value.tuple #[gluV vb vc (uniG a b), iv 0]; simp only [gluV, uniG_len]; try rfl) (HSub.pick 1 (by rw [ownG, uniG_len]; rfl) (HSub.nil _)) hs

end Go.Proofs
/- Twofold covers and doubles of gluings: contracts of both texts. -/
namespace Go.Proofs
open Go Go.V
set_option maxRecDepth 20000
theorem tw_lo {g : Glu} {t f : Nat} (hok : okG g = true) (ht : t < g.length) (hf : f < 4) (h : 0 ≤ (fAt g t f).tet ∧ sgnP (fAt g t f).p = 1) : twH g.length t f (fAt (uniG g g) t f) = ⟨(fAt g t f).tet + g.length, (fAt g t f).p⟩ := by
  have := okG_tet hok ht hf
  rw [uniG_lo ht, twH, if_pos h, Int.emod_eq_of_lt (by omega) (by omega)]
theorem tw_hi {g : Glu} {t f : Nat} (hok : okG g = true) (ht : t < g.length) (hf : f < 4) (h : 0 ≤ (fAt g t f).tet ∧ sgnP (fAt g t f).p = 1) : twH g.length (t + g.length) f (fAt (uniG g g) (t + g.length) f) = ⟨(fAt g t f).tet, (fAt g t f).p⟩ := by
  have := okG_tet hok ht hf
  have e : shF (g.length : Int) (fAt g t f) = ⟨(fAt g t f).tet + g.length, (fAt g t f).p⟩ := by rw [shF, if_pos h.1]
  rw [uniG_hi ht hf, e, twH, if_pos ⟨by show 0 ≤ _ + _; omega, h.2⟩]
  congr 1
  show ((fAt g t f).tet + g.length + g.length) % (2 * g.length) = _
  rw [show (fAt g t f).tet + (g.length : Int) + g.length = (fAt g t f).tet + 2 * g.length by omega, Int.add_emod_right, Int.emod_eq_of_lt (by omega) (by omega)]
theorem tw_no {g : Glu} {t f : Nat} (ht : t < g.length) (hf : f < 4) (h : ¬ (0 ≤ (fAt g t f).tet ∧ sgnP (fAt g t f).p = 1)) : twH g.length t f (fAt (uniG g g) t f) = fAt (uniG g g) t f ∧ twH g.length (t + g.length) f (fAt (uniG g g) (t + g.length) f) = fAt (uniG g g) (t + g.length) f := by
  constructor
  · rw [uniG_lo ht, twH, if_neg h]
  · rw [uniG_hi ht hf, shF]
    by_cases h0 : 0 ≤ (fAt g t f).tet
    · rw [if_pos h0, twH, if_neg (fun k => h ⟨h0, k.2⟩)]
    · rw [if_neg h0, twH, if_neg h]
theorem db_lo {g : Glu} {t f : Nat} (ht : t < g.length) (h : (fAt g t f).tet < 0) : dbH g.length t f (fAt (uniG g g) t f) = ⟨(t : Int) + g.length, idP⟩ := by
  rw [uniG_lo ht, dbH, if_pos h, Int.emod_eq_of_lt (by omega) (by omega)]
theorem db_hi {g : Glu} {t f : Nat} (ht : t < g.length) (hf : f < 4) (h : (fAt g t f).tet < 0) : dbH g.length (t + g.length) f (fAt (uniG g g) (t + g.length) f) = ⟨(t : Int), idP⟩ := by
  have e : shF (g.length : Int) (fAt g t f) = fAt g t f := by rw [shF, if_neg (by omega)]
  rw [uniG_hi ht hf, e, dbH, if_pos h]
  congr 1
  rw [show ((t + g.length : Nat) : Int) + g.length = t + 2 * g.length by omega, Int.add_emod_right, Int.emod_eq_of_lt (by omega) (by omega)]
theorem db_no {g : Glu} {t f : Nat} (ht : t < g.length) (hf : f < 4) (h : ¬ (fAt g t f).tet < 0) : dbH g.length t f (fAt (uniG g g) t f) = fAt (uniG g g) t f ∧ dbH g.length (t + g.length) f (fAt (uniG g g) (t + g.length) f) = fAt (uniG g g) (t + g.length) f := by
  constructor
  · rw [uniG_lo ht, dbH, if_neg h]
  · rw [uniG_hi ht hf, shF, if_pos (by omega), dbH, if_neg (by show ¬ _ + _ < _; omega)]

theorem gl_Twofold (base : Option Addr) (A : Addr) (cap : Nat) (g : Glu) (w : World) (hg : GluAt w base A g) (hok : okG g = true) (hn : 2 * g.length ≤ 1000) : Gives Tryz.prog 12 #[gluV base cap g] w Nil (fun q : Option Addr × Nat => OKB q (twoG g).length) (fun q => .tuple #[gluV q.1 q.2 (twoG g), iv 0]) (fun q => [ownG q (twoG g)]) := by
  have hlen := hg.len
  have hul : (uniG g g).length = 2 * g.length := by rw [uniG_len]; omega
  refine fn_of_runM (S := Nil) (args := [gluV base cap g]) (n := 62) (L := []) Tryz.func12 rfl Tryz.ntmps12 (Nat.le_of_ble_eq_true rfl) (Sym.nil _ _) ?_
  change RunC _ _ _ [(0, _)] _
  refine RunC.conv (fun _ hs => hs.marks_nil) ?_
  refine RunC.seq ?_
  refine RunC.region ?_
  refine RunL.grows rfl rfl rfl (Grows.box rfl rfl) (fun b1 _ => ?_)
  refine RunL.grows rfl rfl rfl (Grows.alloc rfl Tryz.zeroValue24) (fun b2 _ => ?_)
  refine RunL.still rfl rfl rfl (Still.assign rfl rfl) ?_
  refine RunL.nil ?_
  refine Ends.then ?_
  refine RunC.seq ?_
  refine RunC.region ?_
  refine RunL.still rfl rfl rfl (Still.loads rfl rfl Tryz.isAgg24 Tryz.sizeOf24 (vs := [_]) rfl (fun _ hs => cells_nth (hs.at (i := 1) rfl) ⟨rfl, trivial⟩)) ?_
  refine RunL.still rfl rfl rfl (Still.loads rfl rfl Tryz.isAgg24 Tryz.sizeOf24 (vs := [_]) rfl (fun _ hs => cells_nth (hs.at (i := 1) rfl) ⟨rfl, trivial⟩)) ?_
  refine RunL.grows rfl rfl rfl (Grows.call (vs := #[_, _]) rfl rfl Tryz.call22 (fun w hs => gl_Union_ok base A cap g base A cap g w (hg.sym hs) (hg.sym hs) hok hok (by omega))) (fun q hq => ?_)
  have hq : OKB q (uniG g g).length := hq
  have hq2 : OKB q (twoG g).length := by have := hq; rw [hul] at this; rw [twoG_len]; exact this
  refine RunL.conv (fun _ hs => hs.re 0 rfl (show _ = HL.own 35 20 (.slice q.1 (2 * g.length) q.2) (2 * g.length) ((uniG g g).flatMap encT) by rw [ownG, hul])) ?_
  refine RunL.still rfl rfl rfl (Still.move rfl rfl) ?_
  refine RunL.still rfl rfl rfl (Still.extractN rfl rfl rfl) ?_
  refine RunL.still rfl rfl rfl (Still.extractN rfl rfl rfl) ?_
  refine RunL.grows rfl rfl rfl (Grows.alloc rfl Tryz.zeroValue24) (fun b4 _ => ?_)
  refine RunL.does0 rfl rfl (Does.store rfl rfl rfl (i := 0) rfl Tryz.sizeOf24 rfl (rfl) rfl) (fun _ _ => ?_)
  refine RunL.conv (fun _ hs => hs.re 0 rfl (show _ = HL.obj b4 (.cells #[.slice q.1 (2 * g.length) q.2] 24 (0, 0)) from by simp only [gluV, hul]; rfl)) ?_
  refine RunL.still rfl rfl rfl (Still.assign rfl rfl) ?_
  refine RunL.nil ?_
  refine Ends.then ?_
  refine RunC.seq ?_
  refine RunC.seq ?_
  refine RunC.region ?_
  refine RunL.still rfl rfl rfl (Still.move rfl rfl) ?_
  refine RunL.still rfl rfl rfl (Still.neq rfl rfl rfl) ?_
  refine RunL.again (t := 16) (u := .bool false) rfl (rfl) ?_
  refine RunL.nil ?_
  refine Ends.then ?_
  refine RunC.cond_false rfl ?_
  refine RunC.skip ?_
  refine Ends.then ?_
  refine RunC.seq ?_
  refine RunC.region ?_
  refine RunL.still rfl rfl rfl (Still.fieldAddrL (off := 0) (off' := 0) rfl rfl Tryz.underlying24 rfl Tryz.sizeOf22 rfl) ?_
  refine RunL.still rfl rfl rfl (Still.load rfl rfl Tryz.isAgg22 (fun _ hs => cell_nth (hs.at (i := 3) rfl) rfl)) ?_
  refine RunL.still rfl rfl rfl (Still.lenSlice rfl rfl Tryz.underlying22) ?_
  refine RunL.grows rfl rfl rfl (Grows.alloc rfl Tryz.zeroValue3) (fun b6 _ => ?_)
  refine RunL.does0 rfl rfl (Does.store1 rfl rfl rfl (i := 0) rfl Tryz.sizeOf3 (rfl) (rfl)) (fun _ _ => ?_)
  refine RunL.nil ?_
  refine Ends.then ?_
  refine RunC.seq ?_
  refine RunC.seq ?_
  refine RunC.region ?_
  refine RunL.still rfl rfl rfl (Still.loads rfl rfl Tryz.isAgg24 Tryz.sizeOf24 (vs := [_]) rfl (fun _ hs => cells_nth (hs.at (i := 4) rfl) ⟨rfl, trivial⟩)) ?_
  refine RunL.grows rfl rfl rfl (Grows.call (vs := #[_]) rfl rfl Tryz.call45 (fun w hs => gl_faces base A cap g w)) (fun gb _ => ?_)
  refine RunL.nil ?_
  refine Ends.then ?_
  refine RunC.block ?_
  refine RunC.conv (fun _ hs => Sym.all (l := [_, _, _]) (hs.sub (HSub.pick 3 rfl (HSub.pick 2 rfl (HSub.pick 1 rfl (HSub.pick 0 rfl (HSub.pick 0 rfl (HSub.pick 0 rfl (HSub.pick 0 rfl (HSub.nil _)))))))))) ?_
  refine RunC.rangeFuncJ (V := .tuple #[]) (gf := 70) (N := 4 * g.length) (lb := #[ptrV gb]) () (fun _ : Unit => none) (fun j => [.agg #[iv ((j / 4 : Nat) : Int), iv ((j % 4 : Nat) : Int)], fcV (fAt g (j / 4) (j % 4))]) (fun j s => HL.all [HL.own 35 20 (.slice q.1 (2 * g.length) q.2) (2 * g.length) ((cg2To (uniG g g) g.length (twH g.length) j).flatMap encT), HL.obj b4 (.cells #[.slice q.1 (2 * g.length) q.2] 24 (0, 0)), HL.obj b6 (.cells #[iv (g.length : Int)] 3 (0, 0))]) rfl rfl (fun _ => rfl) rfl Tryz.call70 rfl (HSub.pick 0 rfl (HSub.refl _)) ?_ ?_ ?_
  · intro l rc j s w S hO hS hj hjs ha hb
    obtain ⟨t, f, rfl, hf4⟩ : ∃ t f, j = 4 * t + f ∧ f < 4 := ⟨j / 4, j % 4, by omega, by omega⟩
    have htN : t < g.length := by omega
    have hxb := okG_tet hok htN hf4
    have e1 : (4 * t + f) / 4 = t := by omega
    have e2 : (4 * t + f) % 4 = f := by omega
    rw [e1, e2]
    refine RunC.seq ?_
    refine RunC.region ?_
    refine RunL.grows rfl rfl rfl (Grows.alloc rfl Tryz.zeroValue68) (fun b7 _ => ?_)
    refine RunL.does0 rfl rfl (Does.store rfl rfl rfl (i := 0) rfl Tryz.sizeOf68 rfl (rfl) rfl) (fun _ _ => ?_)
    refine RunL.nil ?_
    refine Ends.then ?_
    refine RunC.region ?_
    refine RunL.grows rfl rfl rfl (Grows.alloc rfl Tryz.zeroValue34) (fun b8 _ => ?_)
    refine RunL.does0 rfl rfl (Does.store rfl rfl rfl (i := 0) rfl Tryz.sizeOf34 rfl (rfl) rfl) (fun _ _ => ?_)
    refine RunL.nil ?_
    refine Ends.roundBeginJ (Fr.Sub.refl _) (HSub.pick 2 rfl (HSub.refl _)) ?_
    refine RunC.conv (fun _ hs => Sym.unall (hs.sub (HSub.pick 3 rfl (HSub.pick 0 rfl (HSub.pick 0 rfl (HSub.pick 0 rfl (HSub.nil _))))))) ?_
    refine RunC.block ?_
    refine RunC.seq ?_
    refine RunC.region ?_
    refine RunL.still rfl rfl rfl (Still.fieldAddrL (off := 0) (off' := 0) rfl rfl Tryz.underlying34 rfl Tryz.sizeOf3 rfl) ?_
    refine RunL.still rfl rfl rfl (Still.load rfl rfl Tryz.isAgg3 (fun _ hs => cell_nth (hs.at (i := 4) rfl) rfl)) ?_
    refine RunL.still rfl rfl rfl (Still.geq rfl rfl rfl) ?_
    refine RunL.still rfl rfl rfl (Still.move rfl rfl) ?_
    refine RunL.split (t := 29) rfl (fun h29 => ?_) (fun h29 => ?_)
    · have h29 := of_decide_eq_true h29
      refine RunL.still rfl rfl rfl (Still.fieldAddrL (off := 0) (off' := 1) rfl rfl Tryz.underlying34 rfl Tryz.sizeOf32 rfl) ?_
      refine RunL.still rfl rfl rfl (Still.loads rfl rfl Tryz.isAgg32 Tryz.sizeOf32 (vs := [_, _, _, _]) rfl (fun _ hs => cells_nth (hs.at (i := 4) rfl) ⟨rfl, ⟨rfl, ⟨rfl, ⟨rfl, trivial⟩⟩⟩⟩)) ?_
      refine RunL.grows rfl rfl rfl (Grows.call (vs := #[_]) rfl rfl Tryz.call46 (fun w hs => gl_sign _ w)) (fun _ _ => ?_)
      refine RunL.still rfl rfl rfl (Still.eql rfl rfl rfl) ?_
      refine RunL.still rfl rfl rfl (Still.pickT rfl rfl rfl) ?_
      refine RunL.nil ?_
      refine Ends.then ?_
      refine RunC.cond rfl (fun h34 => ?_) (fun h34 => ?_)
      · have h34 := of_decide_eq_true h34
        refine RunC.seq ?_
        refine RunC.draw 13 (.still 0 (.still 1 (.still 2 (.still 3 (.still 4 (.still 5 (.still 6 (.still 7 (.still 8 (.still 9 (.still 10 (.still 11 (.still 12 .done))))))))))))) (by kernel_rfl) (by kernel_rfl) ?_
        refine RunG.still rfl rfl rfl rfl (Still.fieldAddrL (off := 0) (off' := 0) rfl rfl Tryz.underlying24 rfl Tryz.sizeOf22 rfl) ?_
        refine RunG.still rfl rfl rfl rfl (Still.load rfl rfl Tryz.isAgg22 (fun _ hs => cell_nth (hs.at (i := 1) rfl) rfl)) ?_
        refine RunG.still rfl rfl rfl rfl (Still.fieldAddrL (off := 0) (off' := 0) rfl rfl Tryz.underlying68 rfl Tryz.sizeOf3 rfl) ?_
        refine RunG.still rfl rfl rfl rfl (Still.load rfl rfl Tryz.isAgg3 (fun _ hs => cell_nth (hs.at (i := 5) rfl) rfl)) ?_
        refine RunG.still rfl rfl rfl rfl (Still.fieldAddrL (off := 0) (off' := 1) rfl rfl Tryz.underlying68 rfl Tryz.sizeOf3 rfl) ?_
        refine RunG.still rfl rfl rfl rfl (Still.load rfl rfl Tryz.isAgg3 (fun _ hs => cell_nth (hs.at (i := 5) rfl) rfl)) ?_
        refine RunG.still rfl rfl rfl rfl (Still.fieldAddrL (off := 0) (off' := 0) rfl rfl Tryz.underlying34 rfl Tryz.sizeOf3 rfl) ?_
        refine RunG.still rfl rfl rfl rfl (Still.load rfl rfl Tryz.isAgg3 (fun _ hs => cell_nth (hs.at (i := 4) rfl) rfl)) ?_
        refine RunG.still rfl rfl rfl rfl (Still.load rfl rfl Tryz.isAgg3 (fun _ hs => cell_nth (hs.at (i := 2) rfl) rfl)) ?_
        refine RunG.still rfl rfl rfl rfl (Still.add rfl rfl rfl (fits64 (by omega) (by omega))) ?_
        refine RunG.still rfl rfl rfl rfl (Still.indexOwnI (m := t) rfl rfl rfl Tryz.underlying22 Tryz.sizeOf35 (fun _ hs => hs.own (i := 0) rfl) (rfl) (by omega)) ?_
        refine RunG.still rfl rfl rfl rfl (Still.indexArrE f rfl rfl rfl Tryz.underlying35 Tryz.sizeOf34 (rfl) (by omega)) ?_
        refine RunG.still rfl rfl rfl rfl (Still.fieldAddrA (off := 0) rfl rfl Tryz.underlying34 rfl Tryz.sizeOf3 rfl) ?_
        refine RunG.done ?_
        show RunL _ _ _ [_] _ _
        refine RunL.does0 rfl rfl (Does.storeOwn1 (xs' := ((setFc (cg2To (uniG g g) g.length (twH g.length) (4 * t + f)) t f (twH g.length t f (fAt (uniG g g) t f))).flatMap encT)) rfl rfl ((congrArg (fun z => Addr.add z _) (add_add _ _ _)).trans (add_add _ _ _)) rfl (i := 0) rfl Tryz.sizeOf3 rfl (by rw [flat_len encT_len, cg2To_len]; omega) ((setTet_flat (by rw [cg2To_len]; omega) hf4 _).trans (congrArg (List.flatMap encT) (by rw [(cg2To_cur (n := g.length) hul htN hf4).1, tw_lo hok htN hf4 ⟨h29, h34⟩, uniG_lo htN])))) (fun _ _ => ?_)
        refine RunL.nil ?_
        refine Ends.then ?_
        refine RunC.draw 13 (.still 0 (.still 1 (.still 2 (.still 3 (.still 4 (.still 5 (.still 6 (.still 7 (.still 8 (.still 9 (.still 10 (.still 11 (.still 12 .done))))))))))))) (by kernel_rfl) (by kernel_rfl) ?_
        refine RunG.still rfl rfl rfl rfl (Still.fieldAddrL (off := 0) (off' := 0) rfl rfl Tryz.underlying24 rfl Tryz.sizeOf22 rfl) ?_
        refine RunG.still rfl rfl rfl rfl (Still.load rfl rfl Tryz.isAgg22 (fun _ hs => cell_nth (hs.at (i := 1) rfl) rfl)) ?_
        refine RunG.still rfl rfl rfl rfl (Still.fieldAddrL (off := 0) (off' := 0) rfl rfl Tryz.underlying68 rfl Tryz.sizeOf3 rfl) ?_
        refine RunG.still rfl rfl rfl rfl (Still.load rfl rfl Tryz.isAgg3 (fun _ hs => cell_nth (hs.at (i := 5) rfl) rfl)) ?_
        refine RunG.still rfl rfl rfl rfl (Still.load rfl rfl Tryz.isAgg3 (fun _ hs => cell_nth (hs.at (i := 2) rfl) rfl)) ?_
        refine RunG.still rfl rfl rfl rfl (Still.add rfl rfl rfl (fits64 (by omega) (by omega))) ?_
        refine RunG.still rfl rfl rfl rfl (Still.fieldAddrL (off := 0) (off' := 1) rfl rfl Tryz.underlying68 rfl Tryz.sizeOf3 rfl) ?_
        refine RunG.still rfl rfl rfl rfl (Still.load rfl rfl Tryz.isAgg3 (fun _ hs => cell_nth (hs.at (i := 5) rfl) rfl)) ?_
        refine RunG.still rfl rfl rfl rfl (Still.fieldAddrL (off := 0) (off' := 0) rfl rfl Tryz.underlying34 rfl Tryz.sizeOf3 rfl) ?_
        refine RunG.still rfl rfl rfl rfl (Still.load rfl rfl Tryz.isAgg3 (fun _ hs => cell_nth (hs.at (i := 4) rfl) rfl)) ?_
        refine RunG.still rfl rfl rfl rfl (Still.indexOwnI (m := (t + g.length)) rfl rfl rfl Tryz.underlying22 Tryz.sizeOf35 (fun _ hs => hs.own (i := 0) rfl) (by omega) (by omega)) ?_
        refine RunG.still rfl rfl rfl rfl (Still.indexArrE f rfl rfl rfl Tryz.underlying35 Tryz.sizeOf34 (rfl) (by omega)) ?_
        refine RunG.still rfl rfl rfl rfl (Still.fieldAddrA (off := 0) rfl rfl Tryz.underlying34 rfl Tryz.sizeOf3 rfl) ?_
        refine RunG.done ?_
        show RunL _ _ _ [_] _ _
        refine RunL.does0 rfl rfl (Does.storeOwn1 (xs' := ((cg2To (uniG g g) g.length (twH g.length) (4 * t + f + 1)).flatMap encT)) rfl rfl ((congrArg (fun z => Addr.add z _) (add_add _ _ _)).trans (add_add _ _ _)) rfl (i := 0) rfl Tryz.sizeOf3 rfl (by rw [flat_len encT_len, setFc_len, cg2To_len]; omega) ((setTet_flat (by rw [setFc_len, cg2To_len]; omega) hf4 _).trans (congrArg (List.flatMap encT) (by rw [cg2To_step _ _ _ _ hf4, fAt_setFc (by rw [cg2To_len]; omega) hf4 hf4, if_neg (by omega), (cg2To_cur (n := g.length) hul htN hf4).2, tw_hi hok htN hf4 ⟨h29, h34⟩, uniG_hi htN hf4, shF, if_pos h29])))) (fun _ _ => ?_)
        refine RunL.nil ?_
        refine Ends.block ?_
        refine Ends.conv (fun _ hs => (Sym.all (l := [HL.own 35 20 (.slice q.1 (2 * g.length) q.2) (2 * g.length) ((cg2To (uniG g g) g.length (twH g.length) (4 * t + f + 1)).flatMap encT), HL.obj b4 (.cells #[.slice q.1 (2 * g.length) q.2] 24 (0, 0)), HL.obj b6 (.cells #[iv (g.length : Int)] 3 (0, 0))]) (hs.sub (HSub.pick 0 rfl (HSub.pick 0 rfl (HSub.pick 0 rfl (HSub.pick 0 rfl (HSub.nil _))))))).sub (HSub.pick 1 rfl (HSub.pick 0 rfl (HSub.nil _)))) (Ends.roundEndJ () rfl (HSub.refl _))
      · have h34 := of_decide_eq_false h34
        refine RunC.skip ?_
        refine Ends.block ?_
        have hno := tw_no htN hf4 (by omega)
        refine Ends.conv (fun _ hs => (Sym.all (l := [HL.own 35 20 (.slice q.1 (2 * g.length) q.2) (2 * g.length) ((cg2To (uniG g g) g.length (twH g.length) (4 * t + f + 1)).flatMap encT), HL.obj b4 (.cells #[.slice q.1 (2 * g.length) q.2] 24 (0, 0)), HL.obj b6 (.cells #[iv (g.length : Int)] 3 (0, 0))]) (hs.sub (HSub.pick 0 (by rw [cg2To_keep (n := g.length) hul htN hf4 hno.1 hno.2]; rfl) (HSub.pick 0 rfl (HSub.pick 0 rfl (HSub.pick 0 rfl (HSub.nil _))))))).sub (HSub.pick 1 rfl (HSub.pick 0 rfl (HSub.nil _)))) (Ends.roundEndJ () rfl (HSub.refl _))
    · have h29 := of_decide_eq_false h29
      refine RunL.off rfl rfl rfl ?_
      refine RunL.off rfl rfl rfl ?_
      refine RunL.off rfl rfl rfl ?_
      refine RunL.off rfl rfl rfl ?_
      refine RunL.still rfl rfl rfl (Still.pickF rfl rfl rfl) ?_
      refine RunL.nil ?_
      refine Ends.then ?_
      refine RunC.cond_false rfl ?_
      refine RunC.skip ?_
      refine Ends.block ?_
      have hno := tw_no htN hf4 (by omega)
      refine Ends.conv (fun _ hs => (Sym.all (l := [HL.own 35 20 (.slice q.1 (2 * g.length) q.2) (2 * g.length) ((cg2To (uniG g g) g.length (twH g.length) (4 * t + f + 1)).flatMap encT), HL.obj b4 (.cells #[.slice q.1 (2 * g.length) q.2] 24 (0, 0)), HL.obj b6 (.cells #[iv (g.length : Int)] 3 (0, 0))]) (hs.sub (HSub.pick 0 (by rw [cg2To_keep (n := g.length) hul htN hf4 hno.1 hno.2]; rfl) (HSub.pick 0 rfl (HSub.pick 0 rfl (HSub.pick 0 rfl (HSub.nil _))))))).sub (HSub.pick 1 rfl (HSub.pick 0 rfl (HSub.nil _)))) (Ends.roundEndJ () rfl (HSub.refl _))
  · intro l J w hs hy
    exact gl_faces1 base A cap g l gb _ _ J w rfl (hs.holds _ (List.mem_cons_self ..)) hs.ltK (fun w1 ho => hg.old (hs.oldK ho)) (fun w1 ho => cell_nth (hs.keep (i := 0) rfl ho) rfl) (fun t f s ht hf hj w1 ho hh hl => by have h := hy (4 * t + f) s (by omega) hj w1 ho hh hl; rwa [show (4 * t + f) / 4 = t by omega, show (4 * t + f) % 4 = f by omega] at h)
  · intro D j s hjN
    cases s
    · change Go.V.Ends _ Exit.normal _ _ _
      refine Ends.conv (fun _ hs => Sym.marks_push (hs.sub (HSub.pick 1 rfl (HSub.pick 4 rfl (HSub.pick 0 rfl (HSub.pick 0 rfl (HSub.pick 0 rfl (HSub.pick 0 rfl (HSub.nil _))))))))) ?_
      refine Ends.conv (fun _ hs => Sym.unall (hs.sub (HSub.pick 1 rfl (HSub.pick 0 rfl (HSub.pick 0 rfl (HSub.pick 0 rfl (HSub.pick 0 rfl (HSub.nil _)))))))) ?_
      have hgN := hjN rfl
      subst hgN
      refine Ends.conv (fun _ hs => hs.re 0 rfl (show _ = HL.own 35 20 (.slice q.1 (2 * g.length) q.2) (2 * g.length) ((twoG g).flatMap encT) by rw [cg2To_all _ (n := g.length) hul]; rfl)) ?_
      refine Ends.block ?_
      refine Ends.then ?_
      refine RunC.seq ?_
      refine RunC.region ?_
      refine RunL.still rfl rfl rfl (Still.loads rfl rfl Tryz.isAgg24 Tryz.sizeOf24 (vs := [_]) rfl (fun _ hs => cells_nth (hs.at (i := 1) rfl) ⟨rfl, trivial⟩)) ?_
      refine RunL.does0 rfl rfl (Does.store rfl rfl rfl (i := 5) rfl Tryz.sizeOf24 rfl (rfl) rfl) (fun _ _ => ?_)
      refine RunL.still rfl rfl rfl (Still.assign rfl rfl) ?_
      refine RunL.nil ?_
      refine Ends.then ?_
      refine RunC.ret ?_
      refine Ends.leaveM (Ds := [D]) (H := [_, _]) (.inl rfl) (HSub.pick 3 rfl (HSub.pick 4 rfl (HSub.pick 0 rfl (HSub.nil _)))) (fun _ _ ok => ok.results2 Tryz.results12 (Holds.cell rfl (fun _ hs => load_cells (vs := [_]) Tryz.isAgg24 Tryz.sizeOf24 rfl (cells_nth (hs.at (i := 0) rfl) ⟨rfl, trivial⟩))) (Holds.tmp rfl)) (fun w1 hs => ?_)
      exact Ret.intro q hq2 (by show _ = Value.tuple #[gluV q.1 q.2 (twoG g), iv 0]; simp only [gluV, twoG_len]; try rfl) (HSub.pick 1 (by rw [ownG, twoG_len]; rfl) (HSub.nil _)) hs

theorem gl_Double (base : Option Addr) (A : Addr) (cap : Nat) (g : Glu) (w : World) (hg : GluAt w base A g) (hok : okG g = true) (hn : 2 * g.length ≤ 1000) : Gives Tryz.prog 13 #[gluV base cap g] w Nil (fun q : Option Addr × Nat => OKB q (dblG g).length) (fun q => .tuple #[gluV q.1 q.2 (dblG g), iv 0]) (fun q => [ownG q (dblG g)]) := by
  have hlen := hg.len
  have hul : (uniG g g).length = 2 * g.length := by rw [uniG_len]; omega
  refine fn_of_runM (S := Nil) (args := [gluV base cap g]) (n := 58) (L := []) Tryz.func13 rfl Tryz.ntmps13 (Nat.le_of_ble_eq_true rfl) (Sym.nil _ _) ?_
  change RunC _ _ _ [(0, _)] _
  refine RunC.conv (fun _ hs => hs.marks_nil) ?_
  refine RunC.seq ?_
  refine RunC.region ?_
  refine RunL.grows rfl rfl rfl (Grows.box rfl rfl) (fun b1 _ => ?_)
  refine RunL.grows rfl rfl rfl (Grows.alloc rfl Tryz.zeroValue24) (fun b2 _ => ?_)
  refine RunL.still rfl rfl rfl (Still.assign rfl rfl) ?_
  refine RunL.nil ?_
  refine Ends.then ?_
  refine RunC.seq ?_
  refine RunC.region ?_
  refine RunL.still rfl rfl rfl (Still.loads rfl rfl Tryz.isAgg24 Tryz.sizeOf24 (vs := [_]) rfl (fun _ hs => cells_nth (hs.at (i := 1) rfl) ⟨rfl, trivial⟩)) ?_
  refine RunL.still rfl rfl rfl (Still.loads rfl rfl Tryz.isAgg24 Tryz.sizeOf24 (vs := [_]) rfl (fun _ hs => cells_nth (hs.at (i := 1) rfl) ⟨rfl, trivial⟩)) ?_
  refine RunL.grows rfl rfl rfl (Grows.call (vs := #[_, _]) rfl rfl Tryz.call22 (fun w hs => gl_Union_ok base A cap g base A cap g w (hg.sym hs) (hg.sym hs) hok hok (by omega))) (fun q hq => ?_)
  have hq : OKB q (uniG g g).length := hq
  have hq2 : OKB q (dblG g).length := by have := hq; rw [hul] at this; rw [dblG_len]; exact this
  refine RunL.conv (fun _ hs => hs.re 0 rfl (show _ = HL.own 35 20 (.slice q.1 (2 * g.length) q.2) (2 * g.length) ((uniG g g).flatMap encT) by rw [ownG, hul])) ?_
  refine RunL.still rfl rfl rfl (Still.move rfl rfl) ?_
  refine RunL.still rfl rfl rfl (Still.extractN rfl rfl rfl) ?_
  refine RunL.still rfl rfl rfl (Still.extractN rfl rfl rfl) ?_
  refine RunL.grows rfl rfl rfl (Grows.alloc rfl Tryz.zeroValue24) (fun b4 _ => ?_)
  refine RunL.does0 rfl rfl (Does.store rfl rfl rfl (i := 0) rfl Tryz.sizeOf24 rfl (rfl) rfl) (fun _ _ => ?_)
  refine RunL.conv (fun _ hs => hs.re 0 rfl (show _ = HL.obj b4 (.cells #[.slice q.1 (2 * g.length) q.2] 24 (0, 0)) from by simp only [gluV, hul]; rfl)) ?_
  refine RunL.still rfl rfl rfl (Still.assign rfl rfl) ?_
  refine RunL.nil ?_
  refine Ends.then ?_
  refine RunC.seq ?_
  refine RunC.seq ?_
  refine RunC.region ?_
  refine RunL.still rfl rfl rfl (Still.move rfl rfl) ?_
  refine RunL.still rfl rfl rfl (Still.neq rfl rfl rfl) ?_
  refine RunL.again (t := 16) (u := .bool false) rfl (rfl) ?_
  refine RunL.nil ?_
  refine Ends.then ?_
  refine RunC.cond_false rfl ?_
  refine RunC.skip ?_
  refine Ends.then ?_
  refine RunC.seq ?_
  refine RunC.region ?_
  refine RunL.still rfl rfl rfl (Still.fieldAddrL (off := 0) (off' := 0) rfl rfl Tryz.underlying24 rfl Tryz.sizeOf22 rfl) ?_
  refine RunL.still rfl rfl rfl (Still.load rfl rfl Tryz.isAgg22 (fun _ hs => cell_nth (hs.at (i := 3) rfl) rfl)) ?_
  refine RunL.still rfl rfl rfl (Still.lenSlice rfl rfl Tryz.underlying22) ?_
  refine RunL.grows rfl rfl rfl (Grows.alloc rfl Tryz.zeroValue3) (fun b6 _ => ?_)
  refine RunL.does0 rfl rfl (Does.store1 rfl rfl rfl (i := 0) rfl Tryz.sizeOf3 (rfl) (rfl)) (fun _ _ => ?_)
  refine RunL.nil ?_
  refine Ends.then ?_
  refine RunC.seq ?_
  refine RunC.seq ?_
  refine RunC.region ?_
  refine RunL.still rfl rfl rfl (Still.loads rfl rfl Tryz.isAgg24 Tryz.sizeOf24 (vs := [_]) rfl (fun _ hs => cells_nth (hs.at (i := 4) rfl) ⟨rfl, trivial⟩)) ?_
  refine RunL.grows rfl rfl rfl (Grows.call (vs := #[_]) rfl rfl Tryz.call45 (fun w hs => gl_faces base A cap g w)) (fun gb _ => ?_)
  refine RunL.nil ?_
  refine Ends.then ?_
  refine RunC.block ?_
  refine RunC.conv (fun _ hs => Sym.all (l := [_, _, _]) (hs.sub (HSub.pick 3 rfl (HSub.pick 2 rfl (HSub.pick 1 rfl (HSub.pick 0 rfl (HSub.pick 0 rfl (HSub.pick 0 rfl (HSub.pick 0 rfl (HSub.nil _)))))))))) ?_
  refine RunC.rangeFuncJ (V := .tuple #[]) (gf := 70) (N := 4 * g.length) (lb := #[ptrV gb]) () (fun _ : Unit => none) (fun j => [.agg #[iv ((j / 4 : Nat) : Int), iv ((j % 4 : Nat) : Int)], fcV (fAt g (j / 4) (j % 4))]) (fun j s => HL.all [HL.own 35 20 (.slice q.1 (2 * g.length) q.2) (2 * g.length) ((cg2To (uniG g g) g.length (dbH g.length) j).flatMap encT), HL.obj b4 (.cells #[.slice q.1 (2 * g.length) q.2] 24 (0, 0)), HL.obj b6 (.cells #[iv (g.length : Int)] 3 (0, 0))]) rfl rfl (fun _ => rfl) rfl Tryz.call70 rfl (HSub.pick 0 rfl (HSub.refl _)) ?_ ?_ ?_
  · intro l rc j s w S hO hS hj hjs ha hb
    obtain ⟨t, f, rfl, hf4⟩ : ∃ t f, j = 4 * t + f ∧ f < 4 := ⟨j / 4, j % 4, by omega, by omega⟩
    have htN : t < g.length := by omega
    have hxb := okG_tet hok htN hf4
    have e1 : (4 * t + f) / 4 = t := by omega
    have e2 : (4 * t + f) % 4 = f := by omega
    rw [e1, e2]
    refine RunC.seq ?_
    refine RunC.region ?_
    refine RunL.grows rfl rfl rfl (Grows.alloc rfl Tryz.zeroValue68) (fun b7 _ => ?_)
    refine RunL.does0 rfl rfl (Does.store rfl rfl rfl (i := 0) rfl Tryz.sizeOf68 rfl (rfl) rfl) (fun _ _ => ?_)
    refine RunL.nil ?_
    refine Ends.then ?_
    refine RunC.region ?_
    refine RunL.grows rfl rfl rfl (Grows.alloc rfl Tryz.zeroValue34) (fun b8 _ => ?_)
    refine RunL.does0 rfl rfl (Does.store rfl rfl rfl (i := 0) rfl Tryz.sizeOf34 rfl (rfl) rfl) (fun _ _ => ?_)
    refine RunL.nil ?_
    refine Ends.roundBeginJ (Fr.Sub.refl _) (HSub.pick 2 rfl (HSub.refl _)) ?_
    refine RunC.conv (fun _ hs => Sym.unall (hs.sub (HSub.pick 3 rfl (HSub.pick 0 rfl (HSub.pick 0 rfl (HSub.pick 0 rfl (HSub.nil _))))))) ?_
    refine RunC.block ?_
    refine RunC.seq ?_
    refine RunC.region ?_
    refine RunL.still rfl rfl rfl (Still.fieldAddrL (off := 0) (off' := 0) rfl rfl Tryz.underlying34 rfl Tryz.sizeOf3 rfl) ?_
    refine RunL.still rfl rfl rfl (Still.load rfl rfl Tryz.isAgg3 (fun _ hs => cell_nth (hs.at (i := 4) rfl) rfl)) ?_
    refine RunL.still rfl rfl rfl (Still.lss rfl rfl rfl) ?_
    refine RunL.nil ?_
    refine Ends.then ?_
    refine RunC.cond rfl (fun h28 => ?_) (fun h28 => ?_)
    · have h28 := of_decide_eq_true h28
      refine RunC.seq ?_
      refine RunC.draw 14 (.still 0 (.still 1 (.still 2 (.still 3 (.still 4 (.still 5 (.still 6 (.still 7 (.still 8 (.still 9 (.still 12 (.one 10 (.still 11 (.still 13 .done)))))))))))))) (by kernel_rfl) (by kernel_rfl) ?_
      refine RunG.still rfl rfl rfl rfl (Still.fieldAddrL (off := 0) (off' := 0) rfl rfl Tryz.underlying24 rfl Tryz.sizeOf22 rfl) ?_
      refine RunG.still rfl rfl rfl rfl (Still.load rfl rfl Tryz.isAgg22 (fun _ hs => cell_nth (hs.at (i := 1) rfl) rfl)) ?_
      refine RunG.still rfl rfl rfl rfl (Still.fieldAddrL (off := 0) (off' := 0) rfl rfl Tryz.underlying68 rfl Tryz.sizeOf3 rfl) ?_
      refine RunG.still rfl rfl rfl rfl (Still.load rfl rfl Tryz.isAgg3 (fun _ hs => cell_nth (hs.at (i := 5) rfl) rfl)) ?_
      refine RunG.still rfl rfl rfl rfl (Still.fieldAddrL (off := 0) (off' := 1) rfl rfl Tryz.underlying68 rfl Tryz.sizeOf3 rfl) ?_
      refine RunG.still rfl rfl rfl rfl (Still.load rfl rfl Tryz.isAgg3 (fun _ hs => cell_nth (hs.at (i := 5) rfl) rfl)) ?_
      refine RunG.still rfl rfl rfl rfl (Still.fieldAddrL (off := 0) (off' := 0) rfl rfl Tryz.underlying68 rfl Tryz.sizeOf3 rfl) ?_
      refine RunG.still rfl rfl rfl rfl (Still.load rfl rfl Tryz.isAgg3 (fun _ hs => cell_nth (hs.at (i := 5) rfl) rfl)) ?_
      refine RunG.still rfl rfl rfl rfl (Still.load rfl rfl Tryz.isAgg3 (fun _ hs => cell_nth (hs.at (i := 2) rfl) rfl)) ?_
      refine RunG.still rfl rfl rfl rfl (Still.add rfl rfl rfl (fits64 (by omega) (by omega))) ?_
      refine RunG.still rfl rfl rfl rfl (Still.indexOwnI (m := t) rfl rfl rfl Tryz.underlying22 Tryz.sizeOf35 (fun _ hs => hs.own (i := 0) rfl) (rfl) (by omega)) ?_
      refine RunG.grows rfl rfl rfl rfl (Grows.call (vs := #[]) rfl rfl Tryz.call47 (fun w hs => gl_identity w)) (fun _ _ => ?_)
      refine RunG.still rfl rfl rfl rfl (Still.build_1_4 (fun x0_0 x1_0 x1_1 x1_2 x1_3 => .agg #[x0_0, x1_0, x1_1, x1_2, x1_3]) rfl rfl rfl (fun _ => by kernel_rfl)) ?_
      refine RunG.still rfl rfl rfl rfl (Still.indexArrE f rfl rfl rfl Tryz.underlying35 Tryz.sizeOf34 (rfl) (by omega)) ?_
      refine RunG.done ?_
      show RunL _ _ _ [_] _ _
      refine RunL.does0 rfl rfl (Does.storeOwn (xs' := ((setFc (cg2To (uniG g g) g.length (dbH g.length) (4 * t + f)) t f (dbH g.length t f (fAt (uniG g g) t f))).flatMap encT)) rfl rfl (add_add _ _ _) rfl (i := 0) rfl Tryz.sizeOf34 rfl (by decide) rfl (by rw [flat_len encT_len, cg2To_len]; omega) (by rw [db_lo htN h28]; exact setFc_flat (by rw [cg2To_len]; omega) hf4 _)) (fun _ _ => ?_)
      refine RunL.nil ?_
      refine Ends.then ?_
      refine RunC.draw 14 (.still 0 (.still 1 (.still 2 (.still 3 (.still 4 (.still 5 (.still 6 (.still 7 (.still 8 (.still 9 (.still 12 (.one 10 (.still 11 (.still 13 .done)))))))))))))) (by kernel_rfl) (by kernel_rfl) ?_
      refine RunG.still rfl rfl rfl rfl (Still.fieldAddrL (off := 0) (off' := 0) rfl rfl Tryz.underlying24 rfl Tryz.sizeOf22 rfl) ?_
      refine RunG.still rfl rfl rfl rfl (Still.load rfl rfl Tryz.isAgg22 (fun _ hs => cell_nth (hs.at (i := 1) rfl) rfl)) ?_
      refine RunG.still rfl rfl rfl rfl (Still.fieldAddrL (off := 0) (off' := 0) rfl rfl Tryz.underlying68 rfl Tryz.sizeOf3 rfl) ?_
      refine RunG.still rfl rfl rfl rfl (Still.load rfl rfl Tryz.isAgg3 (fun _ hs => cell_nth (hs.at (i := 5) rfl) rfl)) ?_
      refine RunG.still rfl rfl rfl rfl (Still.load rfl rfl Tryz.isAgg3 (fun _ hs => cell_nth (hs.at (i := 2) rfl) rfl)) ?_
      refine RunG.still rfl rfl rfl rfl (Still.add rfl rfl rfl (fits64 (by omega) (by omega))) ?_
      refine RunG.still rfl rfl rfl rfl (Still.fieldAddrL (off := 0) (off' := 1) rfl rfl Tryz.underlying68 rfl Tryz.sizeOf3 rfl) ?_
      refine RunG.still rfl rfl rfl rfl (Still.load rfl rfl Tryz.isAgg3 (fun _ hs => cell_nth (hs.at (i := 5) rfl) rfl)) ?_
      refine RunG.still rfl rfl rfl rfl (Still.fieldAddrL (off := 0) (off' := 0) rfl rfl Tryz.underlying68 rfl Tryz.sizeOf3 rfl) ?_
      refine RunG.still rfl rfl rfl rfl (Still.load rfl rfl Tryz.isAgg3 (fun _ hs => cell_nth (hs.at (i := 5) rfl) rfl)) ?_
      refine RunG.still rfl rfl rfl rfl (Still.indexOwnI (m := (t + g.length)) rfl rfl rfl Tryz.underlying22 Tryz.sizeOf35 (fun _ hs => hs.own (i := 0) rfl) (by omega) (by omega)) ?_
      refine RunG.grows rfl rfl rfl rfl (Grows.call (vs := #[]) rfl rfl Tryz.call47 (fun w hs => gl_identity w)) (fun _ _ => ?_)
      refine RunG.still rfl rfl rfl rfl (Still.build_1_4 (fun x0_0 x1_0 x1_1 x1_2 x1_3 => .agg #[x0_0, x1_0, x1_1, x1_2, x1_3]) rfl rfl rfl (fun _ => by kernel_rfl)) ?_
      refine RunG.still rfl rfl rfl rfl (Still.indexArrE f rfl rfl rfl Tryz.underlying35 Tryz.sizeOf34 (rfl) (by omega)) ?_
      refine RunG.done ?_
      show RunL _ _ _ [_] _ _
      refine RunL.does0 rfl rfl (Does.storeOwn (xs' := ((cg2To (uniG g g) g.length (dbH g.length) (4 * t + f + 1)).flatMap encT)) rfl rfl (add_add _ _ _) rfl (i := 0) rfl Tryz.sizeOf34 rfl (by decide) rfl (by rw [flat_len encT_len, setFc_len, cg2To_len]; omega) (by rw [cg2To_step _ _ _ _ hf4, db_hi htN hf4 h28]; exact setFc_flat (by rw [setFc_len, cg2To_len]; omega) hf4 _)) (fun _ _ => ?_)
      refine RunL.nil ?_
      refine Ends.block ?_
      refine Ends.conv (fun _ hs => (Sym.all (l := [HL.own 35 20 (.slice q.1 (2 * g.length) q.2) (2 * g.length) ((cg2To (uniG g g) g.length (dbH g.length) (4 * t + f + 1)).flatMap encT), HL.obj b4 (.cells #[.slice q.1 (2 * g.length) q.2] 24 (0, 0)), HL.obj b6 (.cells #[iv (g.length : Int)] 3 (0, 0))]) (hs.sub (HSub.pick 0 rfl (HSub.pick 0 rfl (HSub.pick 0 rfl (HSub.pick 0 rfl (HSub.nil _))))))).sub (HSub.pick 1 rfl (HSub.pick 0 rfl (HSub.nil _)))) (Ends.roundEndJ () rfl (HSub.refl _))
    · have h28 := of_decide_eq_false h28
      refine RunC.skip ?_
      refine Ends.block ?_
      have hno := db_no htN hf4 h28
      refine Ends.conv (fun _ hs => (Sym.all (l := [HL.own 35 20 (.slice q.1 (2 * g.length) q.2) (2 * g.length) ((cg2To (uniG g g) g.length (dbH g.length) (4 * t + f + 1)).flatMap encT), HL.obj b4 (.cells #[.slice q.1 (2 * g.length) q.2] 24 (0, 0)), HL.obj b6 (.cells #[iv (g.length : Int)] 3 (0, 0))]) (hs.sub (HSub.pick 0 (by rw [cg2To_keep (n := g.length) hul htN hf4 hno.1 hno.2]; rfl) (HSub.pick 0 rfl (HSub.pick 0 rfl (HSub.pick 0 rfl (HSub.nil _))))))).sub (HSub.pick 1 rfl (HSub.pick 0 rfl (HSub.nil _)))) (Ends.roundEndJ () rfl (HSub.refl _))
  · intro l J w hs hy
    exact gl_faces1 base A cap g l gb _ _ J w rfl (hs.holds _ (List.mem_cons_self ..)) hs.ltK (fun w1 ho => hg.old (hs.oldK ho)) (fun w1 ho => cell_nth (hs.keep (i := 0) rfl ho) rfl) (fun t f s ht hf hj w1 ho hh hl => by have h := hy (4 * t + f) s (by omega) hj w1 ho hh hl; rwa [show (4 * t + f) / 4 = t by omega, show (4 * t + f) % 4 = f by omega] at h)
  · intro D j s hjN
    cases s
    · change Go.V.Ends _ Exit.normal _ _ _
      refine Ends.conv (fun _ hs => Sym.marks_push (hs.sub (HSub.pick 1 rfl (HSub.pick 4 rfl (HSub.pick 0 rfl (HSub.pick 0 rfl (HSub.pick 0 rfl (HSub.pick 0 rfl (HSub.nil _))))))))) ?_
      refine Ends.conv (fun _ hs => Sym.unall (hs.sub (HSub.pick 1 rfl (HSub.pick 0 rfl (HSub.pick 0 rfl (HSub.pick 0 rfl (HSub.pick 0 rfl (HSub.nil _)))))))) ?_
      have hgN := hjN rfl
      subst hgN
      refine Ends.conv (fun _ hs => hs.re 0 rfl (show _ = HL.own 35 20 (.slice q.1 (2 * g.length) q.2) (2 * g.length) ((dblG g).flatMap encT) by rw [cg2To_all _ (n := g.length) hul]; rfl)) ?_
      refine Ends.block ?_
      refine Ends.then ?_
      refine RunC.seq ?_
      refine RunC.region ?_
      refine RunL.still rfl rfl rfl (Still.loads rfl rfl Tryz.isAgg24 Tryz.sizeOf24 (vs := [_]) rfl (fun _ hs => cells_nth (hs.at (i := 1) rfl) ⟨rfl, trivial⟩)) ?_
      refine RunL.does0 rfl rfl (Does.store rfl rfl rfl (i := 5) rfl Tryz.sizeOf24 rfl (rfl) rfl) (fun _ _ => ?_)
      refine RunL.still rfl rfl rfl (Still.assign rfl rfl) ?_
      refine RunL.nil ?_
      refine Ends.then ?_
      refine RunC.ret ?_
      refine Ends.leaveM (Ds := [D]) (H := [_, _]) (.inl rfl) (HSub.pick 3 rfl (HSub.pick 4 rfl (HSub.pick 0 rfl (HSub.nil _)))) (fun _ _ ok => ok.results2 Tryz.results13 (Holds.cell rfl (fun _ hs => load_cells (vs := [_]) Tryz.isAgg24 Tryz.sizeOf24 rfl (cells_nth (hs.at (i := 0) rfl) ⟨rfl, trivial⟩))) (Holds.tmp rfl)) (fun w1 hs => ?_)
      exact Ret.intro q hq2 (by show _ = Value.tuple #[gluV q.1 q.2 (dblG g), iv 0]; simp only [gluV, dblG_len]; try rfl) (HSub.pick 1 (by rw [ownG, dblG_len]; rfl) (HSub.nil _)) hs

end Go.Proofs
/- The chapter's examples. -/
namespace Go.Proofs
open Go Go.V
set_option maxRecDepth 20000
theorem gl_Orient_one (base : Option Addr) (A : Addr) (cap : Nat) (w : World) (hg : GluAt w base A gOne) : Gives Tryz.prog 15 #[gluV base cap gOne] w Nil (fun _ : Nat => True) (fun b => .tuple #[.slice (some ⟨b, 0, none⟩) 1 1, .bool true, iv 0]) (fun b => [HL.own 3 1 (.slice (some ⟨b, 0, none⟩) 1 1) 1 (ints [1])]) := by
  have h := gl_Orient base A cap gOne w hg one_ok
  have e1 : ∀ b, oriV gOne b = .tuple #[.slice (some ⟨b, 0, none⟩) 1 1, .bool true, iv 0] := fun b => by rw [oriV, one_ori]; rfl
  have e2 : ∀ b, oriH gOne b = [HL.own 3 1 (.slice (some ⟨b, 0, none⟩) 1 1) 1 (ints [1])] := fun b => by rw [oriH, one_ori]; rfl
  simp only [e1, e2] at h
  exact h
theorem gl_Text_one (g : Glu) (t : ByteArray) (base : Option Addr) (A : Addr) (cap : Nat) (w : World) (hg : GluAt w base A g) (hok : okG g = true) (ht : textG g = t) (he : Env w) : Gives Tryz.prog 26 #[gluV base cap g] w Nil (fun _ : Unit => True) (fun _ => .tuple #[.string t, iv 0]) (fun _ => []) := by
  subst ht; exact gl_Text base A cap g w hg hok he

theorem lw_sane (w : World) (he : Env w) : Gives Tryz.prog 9 #[] w Nil (fun _ : Unit => True) (fun _ => .bool true) (fun _ => []) := by
  refine fn_of_run (S := Nil) (args := []) (n := 150) (L := []) Tryz.func9 rfl Tryz.ntmps9 (Nat.le_of_ble_eq_true rfl) (Sym.nil _ _) ?_
  change RunC _ _ _ [] _
  refine RunC.seq ?_
  refine RunC.region ?_
  refine RunL.still rfl rfl rfl (Still.assign rfl rfl) ?_
  refine RunL.nil ?_
  refine Ends.then ?_
  refine RunC.seq ?_
  refine RunC.region ?_
  refine RunL.grows rfl rfl rfl (Grows.call (vs := #[]) rfl rfl Tryz.call39 (fun w hs => lw_One w)) (fun b16 _ => ?_)
  refine RunL.grows rfl rfl rfl (Grows.alloc rfl Tryz.zeroValue24) (fun b1 _ => ?_)
  refine RunL.does0 rfl rfl (Does.store rfl rfl rfl (i := 0) rfl Tryz.sizeOf24 rfl (rfl) rfl) (fun _ _ => ?_)
  refine RunL.conv (fun _ hs => hs.re 0 rfl (show _ = HL.obj b1 (.cells #[.slice (some ⟨b16, 0, none⟩) 1 1] 24 (0, 0)) from rfl)) ?_
  refine RunL.nil ?_
  refine Ends.then ?_
  refine RunC.seq ?_
  refine RunC.region ?_
  refine RunL.still rfl rfl rfl (Still.build_1 (fun x0_0 => .agg #[x0_0, .int .i64 0, .int .i64 0, .int .i64 0, .int .i64 0]) rfl rfl (fun _ => by kernel_rfl)) ?_
  refine RunL.still rfl rfl rfl (Still.build_1 (fun x0_0 => .agg #[x0_0, .int .i64 0, .int .i64 0, .int .i64 0, .int .i64 0]) rfl rfl (fun _ => by kernel_rfl)) ?_
  refine RunL.still rfl rfl rfl (Still.build_1 (fun x0_0 => .agg #[x0_0, .int .i64 0, .int .i64 0, .int .i64 0, .int .i64 0]) rfl rfl (fun _ => by kernel_rfl)) ?_
  refine RunL.still rfl rfl rfl (Still.build_1 (fun x0_0 => .agg #[x0_0, .int .i64 0, .int .i64 0, .int .i64 0, .int .i64 0]) rfl rfl (fun _ => by kernel_rfl)) ?_
  refine RunL.still rfl rfl rfl (Still.build_5_5_5_5 (fun x0_0 x0_1 x0_2 x0_3 x0_4 x1_0 x1_1 x1_2 x1_3 x1_4 x2_0 x2_1 x2_2 x2_3 x2_4 x3_0 x3_1 x3_2 x3_3 x3_4 => .agg #[x0_0, x0_1, x0_2, x0_3, x0_4, x1_0, x1_1, x1_2, x1_3, x1_4, x2_0, x2_1, x2_2, x2_3, x2_4, x3_0, x3_1, x3_2, x3_3, x3_4]) rfl rfl rfl rfl rfl (fun _ => by kernel_rfl)) ?_
  refine RunL.grows rfl rfl rfl (Grows.slice1 rfl rfl Tryz.underlying22 Tryz.sizeOf35 rfl Tryz.zeroValue35 (by decide)) (fun b22 _ => ?_)
  refine RunL.conv (fun _ hs => Sym.obj_own (k := 20) (n := 1) hs rfl (by omega)) ?_
  refine RunL.still rfl rfl rfl (Still.build_1 (fun x0_0 => .agg #[x0_0]) rfl rfl (fun _ => by kernel_rfl)) ?_
  refine RunL.grows rfl rfl rfl (Grows.alloc rfl Tryz.zeroValue24) (fun b2 _ => ?_)
  refine RunL.does0 rfl rfl (Does.store rfl rfl rfl (i := 0) rfl Tryz.sizeOf24 rfl (rfl) rfl) (fun _ _ => ?_)
  refine RunL.conv (fun _ hs => hs.re 0 rfl (show _ = HL.obj b2 (.cells #[.slice (some ⟨b22, 0, none⟩) 1 1] 24 (0, 0)) from rfl)) ?_
  refine RunL.nil ?_
  refine Ends.then ?_
  refine RunC.seq ?_
  refine RunC.region ?_
  refine RunL.grows rfl rfl rfl (Grows.call (vs := #[]) rfl rfl Tryz.call40 (fun w hs => rf_Identity w)) (fun _ _ => ?_)
  refine RunL.still rfl rfl rfl (Still.build_4 (fun x0_0 x0_1 x0_2 x0_3 => .agg #[.int .i64 0, x0_0, x0_1, x0_2, x0_3]) rfl rfl (fun _ => by kernel_rfl)) ?_
  refine RunL.still rfl rfl rfl (Still.build_1 (fun x0_0 => .agg #[x0_0, .int .i64 0, .int .i64 0, .int .i64 0, .int .i64 0]) rfl rfl (fun _ => by kernel_rfl)) ?_
  refine RunL.still rfl rfl rfl (Still.build_1 (fun x0_0 => .agg #[x0_0, .int .i64 0, .int .i64 0, .int .i64 0, .int .i64 0]) rfl rfl (fun _ => by kernel_rfl)) ?_
  refine RunL.still rfl rfl rfl (Still.build_1 (fun x0_0 => .agg #[x0_0, .int .i64 0, .int .i64 0, .int .i64 0, .int .i64 0]) rfl rfl (fun _ => by kernel_rfl)) ?_
  refine RunL.still rfl rfl rfl (Still.build_5_5_5_5 (fun x0_0 x0_1 x0_2 x0_3 x0_4 x1_0 x1_1 x1_2 x1_3 x1_4 x2_0 x2_1 x2_2 x2_3 x2_4 x3_0 x3_1 x3_2 x3_3 x3_4 => .agg #[x0_0, x0_1, x0_2, x0_3, x0_4, x1_0, x1_1, x1_2, x1_3, x1_4, x2_0, x2_1, x2_2, x2_3, x2_4, x3_0, x3_1, x3_2, x3_3, x3_4]) rfl rfl rfl rfl rfl (fun _ => by kernel_rfl)) ?_
  refine RunL.grows rfl rfl rfl (Grows.slice1 rfl rfl Tryz.underlying22 Tryz.sizeOf35 rfl Tryz.zeroValue35 (by decide)) (fun b30 _ => ?_)
  refine RunL.conv (fun _ hs => Sym.obj_own (k := 20) (n := 1) hs rfl (by omega)) ?_
  refine RunL.still rfl rfl rfl (Still.build_1 (fun x0_0 => .agg #[x0_0]) rfl rfl (fun _ => by kernel_rfl)) ?_
  refine RunL.grows rfl rfl rfl (Grows.alloc rfl Tryz.zeroValue24) (fun b3 _ => ?_)
  refine RunL.does0 rfl rfl (Does.store rfl rfl rfl (i := 0) rfl Tryz.sizeOf24 rfl (rfl) rfl) (fun _ _ => ?_)
  refine RunL.conv (fun _ hs => hs.re 0 rfl (show _ = HL.obj b3 (.cells #[.slice (some ⟨b30, 0, none⟩) 1 1] 24 (0, 0)) from rfl)) ?_
  refine RunL.nil ?_
  refine Ends.then ?_
  refine RunC.seq ?_
  refine RunC.region ?_
  refine RunL.still rfl rfl rfl (Still.loads rfl rfl Tryz.isAgg24 Tryz.sizeOf24 (vs := [_]) rfl (fun _ hs => cells_nth (hs.at (i := 4) rfl) ⟨rfl, trivial⟩)) ?_
  refine RunL.grows rfl rfl rfl (Grows.call (vs := #[_]) rfl rfl Tryz.call26 (fun w hs => gl_Text_one gOne txtOne (some ⟨b16, 0, none⟩) _ 1 w (GluAt.of_ownG (q := (some ⟨b16, 0, none⟩, 1)) (g := gOne) (by decide +kernel) (hs.at (i := 5) rfl)) one_ok one_text (he.sym hs))) (fun _ _ => ?_)
  refine RunL.still rfl rfl rfl (Still.move rfl rfl) ?_
  refine RunL.still rfl rfl rfl (Still.extractN rfl rfl rfl) ?_
  refine RunL.still rfl rfl rfl (Still.extractN rfl rfl rfl) ?_
  refine RunL.still rfl rfl rfl (Still.assign rfl rfl) ?_
  refine RunL.still rfl rfl rfl (Still.assign rfl rfl) ?_
  refine RunL.nil ?_
  refine Ends.then ?_
  refine RunC.seq ?_
  refine RunC.region ?_
  refine RunL.still rfl rfl rfl (Still.loads rfl rfl Tryz.isAgg24 Tryz.sizeOf24 (vs := [_]) rfl (fun _ hs => cells_nth (hs.at (i := 4) rfl) ⟨rfl, trivial⟩)) ?_
  refine RunL.grows rfl rfl rfl (Grows.call (vs := #[_]) rfl rfl Tryz.call15 (fun w hs => gl_Orient_one (some ⟨b16, 0, none⟩) _ 1 w (GluAt.of_ownG (q := (some ⟨b16, 0, none⟩, 1)) (g := gOne) (by decide +kernel) (hs.at (i := 5) rfl)))) (fun b39 _ => ?_)
  refine RunL.still rfl rfl rfl (Still.move rfl rfl) ?_
  refine RunL.still rfl rfl rfl (Still.extractN rfl rfl rfl) ?_
  refine RunL.still rfl rfl rfl (Still.extractN rfl rfl rfl) ?_
  refine RunL.still rfl rfl rfl (Still.extractN rfl rfl rfl) ?_
  refine RunL.still rfl rfl rfl (Still.assign rfl rfl) ?_
  refine RunL.still rfl rfl rfl (Still.assign rfl rfl) ?_
  refine RunL.still rfl rfl rfl (Still.assign rfl rfl) ?_
  refine RunL.nil ?_
  refine Ends.then ?_
  refine RunC.seq ?_
  refine RunC.region ?_
  refine RunL.still rfl rfl rfl (Still.loads rfl rfl Tryz.isAgg24 Tryz.sizeOf24 (vs := [_]) rfl (fun _ hs => cells_nth (hs.at (i := 5) rfl) ⟨rfl, trivial⟩)) ?_
  refine RunL.grows rfl rfl rfl (Grows.call (vs := #[_]) rfl rfl Tryz.call12 (fun w hs => gl_Twofold (some ⟨b16, 0, none⟩) _ 1 gOne w (GluAt.of_ownG (q := (some ⟨b16, 0, none⟩, 1)) (g := gOne) (by decide +kernel) (hs.at (i := 6) rfl)) one_ok (by decide))) (fun q hq => ?_)
  refine RunL.still rfl rfl rfl (Still.move rfl rfl) ?_
  refine RunL.still rfl rfl rfl (Still.extractN rfl rfl rfl) ?_
  refine RunL.still rfl rfl rfl (Still.extractN rfl rfl rfl) ?_
  refine RunL.grows rfl rfl rfl (Grows.alloc rfl Tryz.zeroValue24) (fun b9 _ => ?_)
  refine RunL.does0 rfl rfl (Does.store rfl rfl rfl (i := 0) rfl Tryz.sizeOf24 rfl (rfl) rfl) (fun _ _ => ?_)
  refine RunL.conv (fun _ hs => hs.re 0 rfl (show _ = HL.obj b9 (.cells #[.slice q.1 2 q.2] 24 (0, 0)) from rfl)) ?_
  refine RunL.still rfl rfl rfl (Still.assign rfl rfl) ?_
  refine RunL.nil ?_
  refine Ends.then ?_
  refine RunC.seq ?_
  refine RunC.region ?_
  refine RunL.still rfl rfl rfl (Still.loads rfl rfl Tryz.isAgg24 Tryz.sizeOf24 (vs := [_]) rfl (fun _ hs => cells_nth (hs.at (i := 5) rfl) ⟨rfl, trivial⟩)) ?_
  refine RunL.grows rfl rfl rfl (Grows.call (vs := #[_]) rfl rfl Tryz.call13 (fun w hs => gl_Double (some ⟨b22, 0, none⟩) _ 1 gFree w (GluAt.of_ownG (q := (some ⟨b22, 0, none⟩, 1)) (g := gFree) (by decide +kernel) (hs.at (i := 6) rfl)) free_ok (by decide))) (fun r hr => ?_)
  refine RunL.still rfl rfl rfl (Still.move rfl rfl) ?_
  refine RunL.still rfl rfl rfl (Still.extractN rfl rfl rfl) ?_
  refine RunL.still rfl rfl rfl (Still.extractN rfl rfl rfl) ?_
  refine RunL.grows rfl rfl rfl (Grows.alloc rfl Tryz.zeroValue24) (fun b11 _ => ?_)
  refine RunL.does0 rfl rfl (Does.store rfl rfl rfl (i := 0) rfl Tryz.sizeOf24 rfl (rfl) rfl) (fun _ _ => ?_)
  refine RunL.conv (fun _ hs => hs.re 0 rfl (show _ = HL.obj b11 (.cells #[.slice r.1 2 r.2] 24 (0, 0)) from rfl)) ?_
  refine RunL.still rfl rfl rfl (Still.assign rfl rfl) ?_
  refine RunL.nil ?_
  refine Ends.then ?_
  refine RunC.seq ?_
  refine RunC.seq ?_
  refine RunC.region ?_
  refine RunL.still rfl rfl rfl (Still.move rfl rfl) ?_
  refine RunL.still rfl rfl rfl (Still.neq rfl rfl rfl) ?_
  refine RunL.again (t := 54) (u := .bool false) rfl (rfl) ?_
  refine RunL.still rfl rfl rfl (Still.move rfl rfl) ?_
  refine RunL.still rfl rfl rfl (Still.move rfl rfl) ?_
  refine RunL.still rfl rfl rfl (Still.neq rfl rfl rfl) ?_
  refine RunL.again (t := 57) (u := .bool false) rfl (rfl) ?_
  refine RunL.still rfl rfl rfl (Still.pickF rfl rfl rfl) ?_
  refine RunL.still rfl rfl rfl (Still.move rfl rfl) ?_
  refine RunL.still rfl rfl rfl (Still.move rfl rfl) ?_
  refine RunL.still rfl rfl rfl (Still.neq rfl rfl rfl) ?_
  refine RunL.again (t := 61) (u := .bool false) rfl (rfl) ?_
  refine RunL.still rfl rfl rfl (Still.pickF rfl rfl rfl) ?_
  refine RunL.still rfl rfl rfl (Still.move rfl rfl) ?_
  refine RunL.still rfl rfl rfl (Still.move rfl rfl) ?_
  refine RunL.still rfl rfl rfl (Still.neq rfl rfl rfl) ?_
  refine RunL.again (t := 65) (u := .bool false) rfl (rfl) ?_
  refine RunL.still rfl rfl rfl (Still.pickF rfl rfl rfl) ?_
  refine RunL.still rfl rfl rfl (Still.move rfl rfl) ?_
  refine RunL.still rfl rfl rfl (Still.move rfl rfl) ?_
  refine RunL.still rfl rfl rfl (Still.neqStrD rfl rfl rfl) ?_
  refine RunL.again (t := 69) (u := .bool false) rfl (by rfl) ?_
  refine RunL.still rfl rfl rfl (Still.pickF rfl rfl rfl) ?_
  refine RunL.still rfl rfl rfl (Still.move rfl rfl) ?_
  refine RunL.still rfl rfl rfl (Still.move rfl rfl) ?_
  refine RunL.still rfl rfl rfl (Still.not rfl rfl) ?_
  refine RunL.again (t := 73) (u := .bool false) rfl (rfl) ?_
  refine RunL.still rfl rfl rfl (Still.pickF rfl rfl rfl) ?_
  refine RunL.still rfl rfl rfl (Still.move rfl rfl) ?_
  refine RunL.still rfl rfl rfl (Still.move rfl rfl) ?_
  refine RunL.grows rfl rfl rfl (Grows.slice1 rfl rfl Tryz.underlying36 Tryz.sizeOf3 rfl Tryz.zeroValue3 (by decide)) (fun b77 _ => ?_)
  refine RunL.conv (fun _ hs => Sym.obj_own (k := 1) (n := 1) hs rfl (by omega)) ?_
  refine RunL.grows rfl rfl rfl (Grows.call (vs := #[_, _]) rfl rfl Tryz.call31 (fun w hs => rf_SameInts (.slice (some ⟨b39, 0, none⟩) 1 1) _ [1] [1] w (own_shape (hs.own (i := 5) rfl)) (own_all (hs.own (i := 5) rfl)) (by decide) (own_shape (hs.own (i := 0) rfl)) (own_all (hs.own (i := 0) rfl)) (by decide))) (fun _ _ => ?_)
  refine RunL.still rfl rfl rfl (Still.not rfl rfl) ?_
  refine RunL.again (t := 79) (u := .bool false) rfl (by rfl) ?_
  refine RunL.still rfl rfl rfl (Still.pickF rfl rfl rfl) ?_
  refine RunL.nil ?_
  refine Ends.then ?_
  refine RunC.cond_false rfl ?_
  refine RunC.skip ?_
  refine Ends.then ?_
  refine RunC.seq ?_
  refine RunC.region ?_
  refine RunL.still rfl rfl rfl (Still.loads rfl rfl Tryz.isAgg24 Tryz.sizeOf24 (vs := [_]) rfl (fun _ hs => cells_nth (hs.at (i := 3) rfl) ⟨rfl, trivial⟩)) ?_
  refine RunL.grows rfl rfl rfl (Grows.call (vs := #[_]) rfl rfl Tryz.call26 (fun w hs => gl_Text_one (twoG gOne) txtTwo q.1 _ q.2 w (GluAt.of_ownG (q := q) (g := twoG gOne) (by decide +kernel) (hs.at (i := 4) rfl)) two_ok two_text (he.sym hs))) (fun _ _ => ?_)
  refine RunL.still rfl rfl rfl (Still.move rfl rfl) ?_
  refine RunL.still rfl rfl rfl (Still.extractN rfl rfl rfl) ?_
  refine RunL.still rfl rfl rfl (Still.extractN rfl rfl rfl) ?_
  refine RunL.still rfl rfl rfl (Still.assign rfl rfl) ?_
  refine RunL.still rfl rfl rfl (Still.assign rfl rfl) ?_
  refine RunL.nil ?_
  refine Ends.then ?_
  refine RunC.seq ?_
  refine RunC.region ?_
  refine RunL.still rfl rfl rfl (Still.loads rfl rfl Tryz.isAgg24 Tryz.sizeOf24 (vs := [_]) rfl (fun _ hs => cells_nth (hs.at (i := 1) rfl) ⟨rfl, trivial⟩)) ?_
  refine RunL.grows rfl rfl rfl (Grows.call (vs := #[_]) rfl rfl Tryz.call26 (fun w hs => gl_Text_one (dblG gFree) txtDbl r.1 _ r.2 w (GluAt.of_ownG (q := r) (g := dblG gFree) (by decide +kernel) (hs.at (i := 2) rfl)) dbl_ok dbl_text (he.sym hs))) (fun _ _ => ?_)
  refine RunL.still rfl rfl rfl (Still.move rfl rfl) ?_
  refine RunL.still rfl rfl rfl (Still.extractN rfl rfl rfl) ?_
  refine RunL.still rfl rfl rfl (Still.extractN rfl rfl rfl) ?_
  refine RunL.still rfl rfl rfl (Still.assign rfl rfl) ?_
  refine RunL.still rfl rfl rfl (Still.assign rfl rfl) ?_
  refine RunL.nil ?_
  refine Ends.then ?_
  refine RunC.seq ?_
  refine RunC.region ?_
  refine RunL.still rfl rfl rfl (Still.move rfl rfl) ?_
  refine RunL.grows rfl rfl rfl (Grows.call (vs := #[_]) rfl rfl Tryz.call29 (fun w hs => gl_Parse_one w (he.sym hs))) (fun p hp => ?_)
  refine RunL.still rfl rfl rfl (Still.move rfl rfl) ?_
  refine RunL.still rfl rfl rfl (Still.extractN rfl rfl rfl) ?_
  refine RunL.still rfl rfl rfl (Still.extractN rfl rfl rfl) ?_
  refine RunL.grows rfl rfl rfl (Grows.alloc rfl Tryz.zeroValue24) (fun b15 _ => ?_)
  refine RunL.does0 rfl rfl (Does.store rfl rfl rfl (i := 0) rfl Tryz.sizeOf24 rfl (rfl) rfl) (fun _ _ => ?_)
  refine RunL.conv (fun _ hs => hs.re 0 rfl (show _ = HL.obj b15 (.cells #[.slice p.1 1 p.2] 24 (0, 0)) from rfl)) ?_
  refine RunL.still rfl rfl rfl (Still.assign rfl rfl) ?_
  refine RunL.nil ?_
  refine Ends.then ?_
  refine RunC.seq ?_
  refine RunC.region ?_
  refine RunL.still rfl rfl rfl (Still.move rfl rfl) ?_
  refine RunL.still rfl rfl rfl (Still.eql rfl rfl rfl) ?_
  refine RunL.again (t := 97) (u := .bool true) rfl (rfl) ?_
  refine RunL.still rfl rfl rfl (Still.move rfl rfl) ?_
  refine RunL.still rfl rfl rfl (Still.move rfl rfl) ?_
  refine RunL.still rfl rfl rfl (Still.eql rfl rfl rfl) ?_
  refine RunL.again (t := 100) (u := .bool true) rfl (rfl) ?_
  refine RunL.still rfl rfl rfl (Still.pickT rfl rfl rfl) ?_
  refine RunL.still rfl rfl rfl (Still.move rfl rfl) ?_
  refine RunL.still rfl rfl rfl (Still.move rfl rfl) ?_
  refine RunL.still rfl rfl rfl (Still.eql rfl rfl rfl) ?_
  refine RunL.again (t := 104) (u := .bool true) rfl (rfl) ?_
  refine RunL.still rfl rfl rfl (Still.pickT rfl rfl rfl) ?_
  refine RunL.still rfl rfl rfl (Still.move rfl rfl) ?_
  refine RunL.still rfl rfl rfl (Still.loads rfl rfl Tryz.isAgg24 Tryz.sizeOf24 (vs := [_]) rfl (fun _ hs => cells_nth (hs.at (i := 0) rfl) ⟨rfl, trivial⟩)) ?_
  refine RunL.still rfl rfl rfl (Still.loads rfl rfl Tryz.isAgg24 Tryz.sizeOf24 (vs := [_]) rfl (fun _ hs => cells_nth (hs.at (i := 12) rfl) ⟨rfl, trivial⟩)) ?_
  refine RunL.grows rfl rfl rfl (Grows.call (vs := #[_, _]) rfl rfl Tryz.call27 (fun w hs => gl_Same p.1 _ p.2 gOne (some ⟨b16, 0, none⟩) _ 1 gOne w (GluAt.of_ownG (q := p) (g := gOne) (by decide +kernel) (hs.at (i := 1) rfl)) (GluAt.of_ownG (q := (some ⟨b16, 0, none⟩, 1)) (g := gOne) (by decide +kernel) (hs.at (i := 13) rfl)))) (fun _ _ => ?_)
  refine RunL.again (t := 109) (u := .bool true) rfl (by rfl) ?_
  refine RunL.still rfl rfl rfl (Still.pickT rfl rfl rfl) ?_
  refine RunL.still rfl rfl rfl (Still.move rfl rfl) ?_
  refine RunL.still rfl rfl rfl (Still.move rfl rfl) ?_
  refine RunL.still rfl rfl rfl (Still.eqlStrD rfl rfl rfl) ?_
  refine RunL.again (t := 113) (u := .bool true) rfl (by rfl) ?_
  refine RunL.still rfl rfl rfl (Still.pickT rfl rfl rfl) ?_
  refine RunL.still rfl rfl rfl (Still.move rfl rfl) ?_
  refine RunL.still rfl rfl rfl (Still.move rfl rfl) ?_
  refine RunL.still rfl rfl rfl (Still.eqlStrD rfl rfl rfl) ?_
  refine RunL.again (t := 117) (u := .bool true) rfl (by rfl) ?_
  refine RunL.still rfl rfl rfl (Still.pickT rfl rfl rfl) ?_
  refine RunL.still rfl rfl rfl (Still.move rfl rfl) ?_
  refine RunL.still rfl rfl rfl (Still.loads rfl rfl Tryz.isAgg24 Tryz.sizeOf24 (vs := [_]) rfl (fun _ hs => cells_nth (hs.at (i := 8) rfl) ⟨rfl, trivial⟩)) ?_
  refine RunL.grows rfl rfl rfl (Grows.call (vs := #[_]) rfl rfl Tryz.call14 (fun w hs => gl_Check (some ⟨b30, 0, none⟩) _ 1 gBad w (GluAt.of_ownG (q := (some ⟨b30, 0, none⟩, 1)) (g := gBad) (by decide +kernel) (hs.at (i := 9) rfl)))) (fun _ _ => ?_)
  refine RunL.still rfl rfl rfl (Still.eql rfl rfl rfl) ?_
  refine RunL.again (t := 122) (u := .bool true) rfl (congrArg Value.bool (decide_eq_true (chkG_bad bad_no))) ?_
  refine RunL.still rfl rfl rfl (Still.pickT rfl rfl rfl) ?_
  refine RunL.still rfl rfl rfl (Still.move rfl rfl) ?_
  refine RunL.still rfl rfl rfl (Still.loads rfl rfl Tryz.isAgg24 Tryz.sizeOf24 (vs := [_]) rfl (fun _ hs => cells_nth (hs.at (i := 12) rfl) ⟨rfl, trivial⟩)) ?_
  refine RunL.grows rfl rfl rfl (Grows.call (vs := #[_]) rfl rfl Tryz.call14 (fun w hs => gl_Check (some ⟨b16, 0, none⟩) _ 1 gOne w (GluAt.of_ownG (q := (some ⟨b16, 0, none⟩, 1)) (g := gOne) (by decide +kernel) (hs.at (i := 13) rfl)))) (fun _ _ => ?_)
  refine RunL.still rfl rfl rfl (Still.eql rfl rfl rfl) ?_
  refine RunL.again (t := 127) (u := .bool true) rfl (congrArg Value.bool (decide_eq_true (chkG_ok one_ok))) ?_
  refine RunL.still rfl rfl rfl (Still.pickT rfl rfl rfl) ?_
  refine RunL.still rfl rfl rfl (Still.move rfl rfl) ?_
  refine RunL.still rfl rfl rfl (Still.build_1_1_1_1 (fun x0_0 x1_0 x2_0 x3_0 => .agg #[x0_0, x1_0, x2_0, x3_0]) rfl rfl rfl rfl rfl (fun _ => by kernel_rfl)) ?_
  refine RunL.still rfl rfl rfl (Still.build_1_1_1_1 (fun x0_0 x1_0 x2_0 x3_0 => .agg #[x0_0, x1_0, x2_0, x3_0]) rfl rfl rfl rfl rfl (fun _ => by kernel_rfl)) ?_
  refine RunL.grows rfl rfl rfl (Grows.call (vs := #[_, _]) rfl rfl Tryz.call41 (fun w hs => gl_Compose ⟨1, 2, 3, 0⟩ ⟨1, 0, 2, 3⟩ w)) (fun _ _ => ?_)
  refine RunL.still rfl rfl rfl (Still.build_1_1_1_1 (fun x0_0 x1_0 x2_0 x3_0 => .agg #[x0_0, x1_0, x2_0, x3_0]) rfl rfl rfl rfl rfl (fun _ => by kernel_rfl)) ?_
  refine RunL.still rfl rfl rfl (Still.eqlAgg rfl rfl rfl Tryz.eqGuardType32 (fun _ => eqP _ _ _ _ _ _ _ _ _ _)) ?_
  refine RunL.again (t := 134) (u := .bool true) rfl (congrArg Value.bool (by decide +kernel)) ?_
  refine RunL.still rfl rfl rfl (Still.pickT rfl rfl rfl) ?_
  refine RunL.still rfl rfl rfl (Still.move rfl rfl) ?_
  refine RunL.still rfl rfl rfl (Still.build_1_1_1_1 (fun x0_0 x1_0 x2_0 x3_0 => .agg #[x0_0, x1_0, x2_0, x3_0]) rfl rfl rfl rfl rfl (fun _ => by kernel_rfl)) ?_
  refine RunL.grows rfl rfl rfl (Grows.call (vs := #[_]) rfl rfl Tryz.call42 (fun w hs => gl_Sign ⟨1, 0, 2, 3⟩ w)) (fun _ _ => ?_)
  refine RunL.still rfl rfl rfl (Still.eql rfl rfl rfl) ?_
  refine RunL.again (t := 139) (u := .bool true) rfl (congrArg Value.bool (by decide +kernel)) ?_
  refine RunL.still rfl rfl rfl (Still.pickT rfl rfl rfl) ?_
  refine RunL.still rfl rfl rfl (Still.move rfl rfl) ?_
  refine RunL.still rfl rfl rfl (Still.build_1_1_1_1 (fun x0_0 x1_0 x2_0 x3_0 => .agg #[x0_0, x1_0, x2_0, x3_0]) rfl rfl rfl rfl rfl (fun _ => by kernel_rfl)) ?_
  refine RunL.grows rfl rfl rfl (Grows.call (vs := #[_]) rfl rfl Tryz.call42 (fun w hs => gl_Sign ⟨1, 2, 0, 3⟩ w)) (fun _ _ => ?_)
  refine RunL.still rfl rfl rfl (Still.eql rfl rfl rfl) ?_
  refine RunL.again (t := 144) (u := .bool true) rfl (congrArg Value.bool (by decide +kernel)) ?_
  refine RunL.still rfl rfl rfl (Still.pickT rfl rfl rfl) ?_
  refine RunL.still rfl rfl rfl (Still.move rfl rfl) ?_
  refine RunL.still rfl rfl rfl (Still.build_1_1_1_1 (fun x0_0 x1_0 x2_0 x3_0 => .agg #[x0_0, x1_0, x2_0, x3_0]) rfl rfl rfl rfl rfl (fun _ => by kernel_rfl)) ?_
  refine RunL.grows rfl rfl rfl (Grows.call (vs := #[_]) rfl rfl Tryz.call43 (fun w hs => gl_Valid ⟨1, 2, 0, 3⟩ w)) (fun _ _ => ?_)
  refine RunL.again (t := 148) (u := .bool true) rfl (congrArg Value.bool (by decide +kernel)) ?_
  refine RunL.still rfl rfl rfl (Still.pickT rfl rfl rfl) ?_
  refine RunL.still rfl rfl rfl (Still.assign rfl rfl) ?_
  refine RunL.nil ?_
  refine Ends.then ?_
  refine RunC.ret ?_
  refine Ends.leave (.inl rfl) (fun _ _ ok => results1 Tryz.results9 (Holds.tmp rfl) ok) (fun w1 hs => ?_)
  exact Ret.intro () trivial rfl (HSub.nil _) hs

end Go.Proofs
/- The statement GlueMakes: the walk. -/
namespace Go.Proofs
open Go Go.V
set_option maxRecDepth 20000
theorem lw_small1 (b : Nat) (b1 : Option Addr) (c1 n1 : Nat) (w : World) (hc : Cells w ⟨b, 0, none⟩ [.slice b1 n1 c1]) : Gives Tryz.prog 10 #[.slice (some ⟨b, 0, none⟩) 1 1] w Nil (fun _ : Unit => True) (fun _ => .bool (decide (n1 ≤ 12))) (fun _ => []) := by
  have h := lw_small b [n1] [.slice b1 n1 c1] w hc rfl (fun i n hi => by
    match i with
    | 0 => exact ⟨b1, c1, by simp at hi ⊢; omega⟩
    | i + 1 => simp at hi) (by simp)
  simpa using h

end Go.Proofs
/- A part of a gluing, renumbered by a map. -/
namespace Go.V
open Go
end Go.V
/- A part of a gluing: contracts of the program. -/
namespace Go.Proofs
open Go Go.V
set_option maxRecDepth 20000
end Go.Proofs
/- The statement GlueStays: the walk. -/
namespace Go.Proofs
open Go Go.V
set_option maxRecDepth 20000
end Go.Proofs
/- What the search for parts finds: the classes of what is glued together. -/
namespace Go.V
open Go
/-- What can be reached from a tetrahedron. -/
inductive Cn (g : Glu) : Nat → Nat → Prop
  | refl (t : Nat) : Cn g t t
  | step {t u f : Nat} : Cn g t u → u < g.length → f < 4 → 0 ≤ (fAt g u f).tet → Cn g t (fAt g u f).tet.toNat
theorem Cn.trans {g : Glu} {t u v : Nat} (h : Cn g t u) (h2 : Cn g u v) : Cn g t v := by
  induction h2 with
  | refl => exact h
  | step _ hu hf h0 ih => exact ih.step hu hf h0
theorem okG_hi {g : Glu} (hg : okG g = true) {u f : Nat} (hu : u < g.length) (hf : f < 4) (h0 : 0 ≤ (fAt g u f).tet) : (fAt g u f).tet.toNat < g.length := by
  have hF := okG_glued hg hu hf h0
  have := hF.hi; omega
theorem okG_back {g : Glu} (hg : okG g = true) {u f : Nat} (hu : u < g.length) (hf : f < 4) (h0 : 0 ≤ (fAt g u f).tet) : Cn g (fAt g u f).tet.toNat u := by
  have hF := okG_glued hg hu hf h0
  have hp := okP_at hF.ok f
  have hb := hF.back
  have h1 : 0 ≤ (fAt g (fAt g u f).tet.toNat ((fAt g u f).p.at f).toNat).tet := by rw [hb]; show 0 ≤ (u : Int); omega
  have := Cn.step (g := g) (Cn.refl (fAt g u f).tet.toNat) (okG_hi hg hu hf h0) (f := ((fAt g u f).p.at f).toNat) (by omega) h1
  rw [hb] at this
  simpa using this
theorem Cn.symm {g : Glu} (hg : okG g = true) {t u : Nat} (h : Cn g t u) : Cn g u t := by
  induction h with
  | refl => exact .refl _
  | step _ hu hf h0 ih => exact (okG_back hg hu hf h0).trans ih
theorem Cn.lt {g : Glu} (hg : okG g = true) {t u : Nat} (h : Cn g t u) (ht : t < g.length) : u < g.length := by
  induction h with
  | refl => exact ht
  | step _ hu hf h0 _ => exact okG_hi hg hu hf h0
/-- The search within a part. -/
structure PJ (g : Glu) (out0 : List Int) (t0 : Nat) (n : Int) (q : Nat) (s : BSt) : Prop where
  st : PSt g s
  lab : ∀ u ∈ s.2, s.1.getD u 0 = n ∧ Cn g t0 u
  same : ∀ v, v ∉ s.2 → s.1.getD v 0 = out0.getD v 0
  fresh : ∀ u ∈ s.2, out0.getD u 0 < 0
  done : ∀ j u f, 4 * j + f < q → s.2[j]? = some u → f < 4 → 0 ≤ (fAt g u f).tet → 0 ≤ s.1.getD (fAt g u f).tet.toNat 0
theorem pFace_J {g : Glu} {out0 : List Int} {t0 : Nat} {n : Int} (hn : 0 ≤ n) (hg : okG g = true) {i f u : Nat} {s : BSt} (h : PJ g out0 t0 n (4 * i + f) s) (hu : s.2[i]? = some u) (hf : f < 4) : PJ g out0 t0 n (4 * i + f + 1) (pFace g n u f s) := by
  have hum : u ∈ s.2 := List.mem_of_getElem? hu
  have huN := h.st.mem u hum
  by_cases hc : 0 ≤ (fAt g u f).tet ∧ s.1.getD (fAt g u f).tet.toNat 0 < 0
  · have hst := pFace_ok hn hg huN hf h.st
    rw [pFace_go hc.1 hc.2] at hst ⊢
    have hwN := okG_hi hg huN hf hc.1
    generalize hw : (fAt g u f).tet.toNat = w at hc hst hwN ⊢
    have hwn : w ∉ s.2 := fun hm => by have := (h.lab w hm).1; omega
    have hl : w < s.1.length := by rw [h.st.len]; exact hwN
    refine ⟨hst, fun v hv => ?_, fun v hv => ?_, fun v hv => ?_, fun j v f' hj hv hf' h0 => ?_⟩
    · rcases List.mem_append.1 hv with hv | hv
      · have : w ≠ v := fun e => hwn (e ▸ hv)
        show (s.1.set w n).getD v 0 = n ∧ _
        rw [getD_set_ne' this]; exact h.lab v hv
      · obtain rfl := List.mem_singleton.1 hv
        refine ⟨getD_set_self' hl, ?_⟩
        rw [← hw]; exact ((h.lab u hum).2).step huN hf hc.1
    · have : w ≠ v := fun e => hv (List.mem_append.2 (.inr (by simp [e])))
      show (s.1.set w n).getD v 0 = _
      rw [getD_set_ne' this]; exact h.same v (fun hm => hv (List.mem_append.2 (.inl hm)))
    · rcases List.mem_append.1 hv with hv | hv
      · exact h.fresh v hv
      · obtain rfl := List.mem_singleton.1 hv
        rw [← h.same v hwn]; exact hc.2
    · show 0 ≤ (s.1.set w n).getD _ 0
      by_cases e : w = (fAt g v f').tet.toNat
      · rw [← e, getD_set_self' hl]; exact hn
      · rw [getD_set_ne' e]
        have hil := (List.getElem?_eq_some_iff.1 hu).1
        have hv' : s.2[j]? = some v := by
          have hv2 : (s.2 ++ [w])[j]? = some v := hv
          rwa [List.getElem?_append_left (by omega)] at hv2
        rcases Nat.lt_or_ge (4 * j + f') (4 * i + f) with h1 | h1
        · exact h.done j v f' h1 hv' hf' h0
        · obtain ⟨rfl, rfl⟩ : j = i ∧ f' = f := by omega
          rw [hu] at hv'; cases hv'
          exact absurd hw.symm e
  · rw [pFace_no hc]
    refine ⟨h.st, h.lab, h.same, h.fresh, fun j v f' hj hv hf' h0 => ?_⟩
    rcases Nat.lt_or_ge (4 * j + f') (4 * i + f) with h1 | h1
    · exact h.done j v f' h1 hv hf' h0
    · obtain ⟨rfl, rfl⟩ : j = i ∧ f' = f := by omega
      rw [hu] at hv; cases hv
      omega
theorem pTo_J {g : Glu} {out0 : List Int} {t0 : Nat} {n : Int} (hn : 0 ≤ n) (hg : okG g = true) {i u : Nat} {s : BSt} (h : PJ g out0 t0 n (4 * i) s) (hu : s.2[i]? = some u) : ∀ f, f ≤ 4 → PJ g out0 t0 n (4 * i + f) (pTo g n u s f)
  | 0, _ => h
  | f + 1, hf => pFace_J hn hg (pTo_J hn hg h hu f (by omega)) (pTo_pre hu f) (by omega)
theorem pBfs_J {g : Glu} {out0 : List Int} {t0 : Nat} {n : Int} (hn : 0 ≤ n) (hg : okG g = true) : ∀ (k i : Nat) {s : BSt}, PJ g out0 t0 n (4 * i) s → i + k = g.length → ∃ q, 4 * (pBfs g n k i s).2.length ≤ q ∧ PJ g out0 t0 n q (pBfs g n k i s)
  | 0, i, s, h, hk => ⟨4 * i, by have := h.st.room; show 4 * s.2.length ≤ _; omega, h⟩
  | k + 1, i, s, h, hk => by
    by_cases hi : i < s.2.length
    · have hu := getD_nat hi
      rw [pBfs_step hu]
      exact pBfs_J hn hg k (i + 1) (pTo_J hn hg h hu 4 (Nat.le_refl 4)) (by omega)
    · rw [pBfs_done hi]
      exact ⟨4 * i, by omega, h⟩
theorem PJ.start {g : Glu} {out : List Int} {t : Nat} {n : Int} (hl : out.length = g.length) (ht : t < g.length) (hn : 0 ≤ n) (h : out.getD t 0 < 0) : PJ g out t n (4 * 0) (out.set t n, [t]) := by
  refine ⟨.start hl ht hn h, fun u hu => ?_, fun v hv => ?_, fun u hu => ?_, fun j u f hj => by omega⟩
  · obtain rfl := List.mem_singleton.1 hu
    exact ⟨getD_set_self' (by omega), .refl _⟩
  · exact getD_set_ne' (fun e => hv (by simp [e]))
  · obtain rfl := List.mem_singleton.1 hu; exact h
/-- What is known of the numbers given so far. -/
structure PA (g : Glu) (t : Nat) (s : List Int × Int) : Prop where
  len : s.1.length = g.length
  pos : 0 ≤ s.2
  vis : ∀ v, v < t → 0 ≤ s.1.getD v 0
  rng : ∀ v, v < g.length → s.1.getD v 0 < s.2
  edge : ∀ v f, v < g.length → f < 4 → 0 ≤ s.1.getD v 0 → 0 ≤ (fAt g v f).tet → s.1.getD (fAt g v f).tet.toNat 0 = s.1.getD v 0
  cls : ∀ u v, u < g.length → v < g.length → 0 ≤ s.1.getD u 0 → s.1.getD u 0 = s.1.getD v 0 → Cn g u v
  onto : ∀ k, 0 ≤ k → k < s.2 → ∃ v, v < g.length ∧ s.1.getD v 0 = k
theorem edge_back {g : Glu} (hg : okG g = true) {u f : Nat} (hu : u < g.length) (hf : f < 4) (h0 : 0 ≤ (fAt g u f).tet) : ∃ f', f' < 4 ∧ (fAt g (fAt g u f).tet.toNat f') = ⟨(u : Int), invP (fAt g u f).p⟩ := by
  have hF := okG_glued hg hu hf h0
  have hp := okP_at hF.ok f
  exact ⟨((fAt g u f).p.at f).toNat, by omega, hF.back⟩
theorem pAll_A {g : Glu} (hg : okG g = true) : ∀ t, t ≤ g.length → PA g t (pAll g t)
  | 0, _ => by
    have e : ∀ v, v < g.length → (List.replicate g.length (-1 : Int)).getD v 0 = -1 := fun v hv => by simp [List.getD_eq_getElem?_getD, hv]
    refine ⟨by simp [pAll], Int.le_refl 0, fun v hv => absurd hv (Nat.not_lt_zero _), fun v hv => ?_, fun v f hv hf h => ?_, fun u v hu hv h => ?_, fun k h0 h1 => ?_⟩
    · show (List.replicate g.length (-1 : Int)).getD v 0 < 0; rw [e v hv]; decide
    · have h : 0 ≤ (List.replicate g.length (-1 : Int)).getD v 0 := h
      rw [e v hv] at h; exact absurd h (by decide)
    · have h : 0 ≤ (List.replicate g.length (-1 : Int)).getD u 0 := h
      rw [e u hu] at h; exact absurd h (by decide)
    · have h1 : k < 0 := h1
      omega
  | t + 1, ht => by
    have ih := pAll_A hg t (by omega)
    by_cases hc : 0 ≤ (pAll g t).1.getD t 0
    · rw [pAll_keep hc]
      exact ⟨ih.len, ih.pos, fun v hv => by rcases Nat.lt_or_ge v t with h | h; exact ih.vis v h; obtain rfl : v = t := (by omega); exact hc, ih.rng, ih.edge, ih.cls, ih.onto⟩
    · rw [pAll_new hc]
      generalize hs0 : pAll g t = s0 at ih hc ⊢
      obtain ⟨out, n⟩ := s0
      have hlen : out.length = g.length := ih.len
      have hpos : 0 ≤ n := ih.pos
      have hc : out.getD t 0 < 0 := by have hc : ¬ 0 ≤ out.getD t 0 := hc; omega
      obtain ⟨q, hq, hJ⟩ := pBfs_J hpos hg g.length 0 (PJ.start hlen (by omega) hpos hc) (by omega)
      show PA g (t + 1) ((pBfs g n g.length 0 (out.set t n, [t])).1, n + 1)
      have htm : t ∈ (pBfs g n g.length 0 (out.set t n, [t])).2 := by
        by_cases h : t ∈ (pBfs g n g.length 0 (out.set t n, [t])).2
        · exact h
        · exfalso
          have key : ∀ (k i : Nat) (s : BSt), t ∈ s.2 → t ∈ (pBfs g n k i s).2 := by
            intro k
            induction k with
            | zero => exact fun i s hs => hs
            | succ k ih2 =>
              intro i s hs
              rw [pBfs]
              split
              · refine ih2 _ _ ?_
                obtain ⟨j, hj⟩ := List.getElem?_of_mem hs
                exact List.mem_of_getElem? (pTo_pre hj 4)
              · exact hs
          exact h (key _ _ _ (List.mem_singleton.2 rfl))
      generalize hr : pBfs g n g.length 0 (out.set t n, [t]) = r at hJ hq htm ⊢
      obtain ⟨o2, l⟩ := r
      have hlab : ∀ u ∈ l, o2.getD u 0 = n ∧ Cn g t u := hJ.lab
      have hsame : ∀ v, v ∉ l → o2.getD v 0 = out.getD v 0 := hJ.same
      have hfresh : ∀ u ∈ l, out.getD u 0 < 0 := hJ.fresh
      have hmem : ∀ u ∈ l, u < g.length := hJ.st.mem
      have holdE : ∀ v f, v < g.length → f < 4 → 0 ≤ out.getD v 0 → 0 ≤ (fAt g v f).tet → out.getD (fAt g v f).tet.toNat 0 = out.getD v 0 := ih.edge
      have hclosed : ∀ u f, u ∈ l → f < 4 → 0 ≤ (fAt g u f).tet → (fAt g u f).tet.toNat ∈ l := by
        intro u f hu hf h0
        by_cases hm : (fAt g u f).tet.toNat ∈ l
        · exact hm
        · exfalso
          obtain ⟨j, hj⟩ := List.getElem?_of_mem hu
          have hjl := (List.getElem?_eq_some_iff.1 hj).1
          have h1 : 0 ≤ o2.getD (fAt g u f).tet.toNat 0 := hJ.done j u f (by have hq : 4 * l.length ≤ q := hq; omega) hj hf h0
          rw [hsame _ hm] at h1
          obtain ⟨f', hf', hb⟩ := edge_back hg (hmem u hu) hf h0
          have h2 := holdE (fAt g u f).tet.toNat f' (okG_hi hg (hmem u hu) hf h0) hf' h1 (by rw [hb]; show 0 ≤ (u : Int); omega)
          rw [hb] at h2
          have h2 : out.getD u 0 = out.getD (fAt g u f).tet.toNat 0 := by simpa using h2
          have := hfresh u hu
          omega
      refine ⟨hJ.st.len, by show 0 ≤ n + 1; omega, fun v hv => ?_, fun v hv => ?_, fun v f hv hf h h0 => ?_, fun u v hu hv h e => ?_, fun k h0 h1 => ?_⟩
      · show 0 ≤ o2.getD v 0
        by_cases hm : v ∈ l
        · rw [(hlab v hm).1]; exact hpos
        · rw [hsame v hm]
          rcases Nat.lt_or_ge v t with h | h
          · exact ih.vis v h
          · obtain rfl : v = t := by omega
            exact absurd htm hm
      · show o2.getD v 0 < n + 1
        by_cases hm : v ∈ l
        · rw [(hlab v hm).1]; omega
        · rw [hsame v hm]; have : out.getD v 0 < n := ih.rng v hv; omega
      · show o2.getD (fAt g v f).tet.toNat 0 = o2.getD v 0
        have h : 0 ≤ o2.getD v 0 := h
        by_cases hm : v ∈ l
        · rw [(hlab v hm).1, (hlab _ (hclosed v f hm hf h0)).1]
        · rw [hsame v hm] at h ⊢
          have e := holdE v f hv hf h h0
          by_cases hm2 : (fAt g v f).tet.toNat ∈ l
          · have := hfresh _ hm2; omega
          · rw [hsame _ hm2, e]
      · have h : 0 ≤ o2.getD u 0 := h
        have e : o2.getD u 0 = o2.getD v 0 := e
        by_cases hm : u ∈ l <;> by_cases hm2 : v ∈ l
        · exact ((hlab u hm).2.symm hg).trans (hlab v hm2).2
        · rw [(hlab u hm).1, hsame v hm2] at e
          have : out.getD v 0 < n := ih.rng v hv
          omega
        · rw [(hlab v hm2).1, hsame u hm] at e
          have : out.getD u 0 < n := ih.rng u hu
          omega
        · rw [hsame u hm] at h e
          rw [hsame v hm2] at e
          exact ih.cls u v hu hv h e
      · have h1 : k < n + 1 := h1
        by_cases e : k = n
        · subst e; exact ⟨t, by omega, (hlab t htm).1⟩
        · obtain ⟨v, hv, hvk⟩ := ih.onto k h0 (by show k < n; omega)
          have hvk : out.getD v 0 = k := hvk
          have : v ∉ l := fun hm => by have := hfresh v hm; omega
          exact ⟨v, hv, by show o2.getD v 0 = k; rw [hsame v this, hvk]⟩
/-- The parts are the classes, numbered from 0 on. -/
theorem parts_A {g : Glu} (hg : okG g = true) : PA g g.length (partsOf g, partsN g) := pAll_A hg g.length (Nat.le_refl _)
theorem parts_len {g : Glu} (hg : okG g = true) : (partsOf g).length = g.length := (parts_A hg).len
theorem parts_rng {g : Glu} (hg : okG g = true) {t : Nat} (ht : t < g.length) : 0 ≤ (partsOf g).getD t 0 ∧ (partsOf g).getD t 0 < partsN g := ⟨(parts_A hg).vis t ht, (parts_A hg).rng t ht⟩
theorem parts_iff {g : Glu} (hg : okG g = true) {t u : Nat} (ht : t < g.length) (hu : u < g.length) : (partsOf g).getD t 0 = (partsOf g).getD u 0 ↔ Cn g t u := by
  constructor
  · exact (parts_A hg).cls t u ht hu (parts_rng hg ht).1
  · intro h
    induction h with
    | refl => rfl
    | step h hu2 hf h0 ih =>
      rw [ih hu2]
      exact ((parts_A hg).edge _ _ hu2 hf (parts_rng hg hu2).1 h0).symm
end Go.V
/- Orientations: what the search finds. -/
namespace Go.V
open Go
/-- An orientation of a gluing. -/
structure Ori (g : Glu) (o : Nat → Int) : Prop where
  one : ∀ t, t < g.length → o t = 1 ∨ o t = -1
  glued : ∀ t f, t < g.length → f < 4 → 0 ≤ (fAt g t f).tet → o (fAt g t f).tet.toNat = -sgnP (fAt g t f).p * o t
structure OJ (g : Glu) (out0 : List Int) (q : Nat) (s : BSt) : Prop where
  st : OSt g s
  same : ∀ v, v ∉ s.2 → s.1.getD v 0 = out0.getD v 0
  fresh : ∀ u ∈ s.2, out0.getD u 0 = 0
  done : ∀ j u f, 4 * j + f < q → s.2[j]? = some u → f < 4 → 0 ≤ (fAt g u f).tet → s.1.getD (fAt g u f).tet.toNat 0 = -sgnP (fAt g u f).p * s.1.getD u 0
theorem sgn_mul_ne {p : P4} {x : Int} (h : x ≠ 0) : -sgnP p * x ≠ 0 := by
  rcases sgnP_one p with e | e <;> rw [e] <;> omega
theorem oFace_J {g : Glu} {out0 : List Int} (hg : okG g = true) {i f u : Nat} {s s' : BSt} (h : OJ g out0 (4 * i + f) s) (hu : s.2[i]? = some u) (hf : f < 4) (he : oFace g u f s = some s') : OJ g out0 (4 * i + f + 1) s' := by
  have hum : u ∈ s.2 := List.mem_of_getElem? hu
  have huN := h.st.mem u hum
  have hu0 := h.st.set u hum
  have hst := (oFace_ok hg huN hf h.st hu0 he).1
  by_cases h0 : (fAt g u f).tet < 0
  · rw [oFace_free h0] at he
    cases he
    refine ⟨h.st, h.same, h.fresh, fun j v f' hj hv hf' h1 => ?_⟩
    rcases Nat.lt_or_ge (4 * j + f') (4 * i + f) with h2 | h2
    · exact h.done j v f' h2 hv hf' h1
    · obtain ⟨rfl, rfl⟩ : j = i ∧ f' = f := by omega
      rw [hu] at hv; cases hv; omega
  · have hwN := okG_hi hg huN hf (by omega)
    by_cases hz : s.1.getD (fAt g u f).tet.toNat 0 = 0
    · rw [oFace_new h0 hz] at he
      cases he
      generalize hw : (fAt g u f).tet.toNat = w at hz hst hwN ⊢
      have hwn : w ∉ s.2 := fun hm => h.st.set w hm hz
      have hl : w < s.1.length := by rw [h.st.len]; exact hwN
      have huw : w ≠ u := fun e => hu0 (e ▸ hz)
      refine ⟨hst, fun v hv => ?_, fun v hv => ?_, fun j v f' hj hv hf' h1 => ?_⟩
      · have : w ≠ v := fun e => hv (List.mem_append.2 (.inr (by simp [e])))
        show (s.1.set w _).getD v 0 = _
        rw [getD_set_ne' this]; exact h.same v (fun hm => hv (List.mem_append.2 (.inl hm)))
      · rcases List.mem_append.1 hv with hv | hv
        · exact h.fresh v hv
        · obtain rfl := List.mem_singleton.1 hv
          rw [← h.same v hwn]; exact hz
      · have hil := (List.getElem?_eq_some_iff.1 hu).1
        have hv' : s.2[j]? = some v := by
          have hv2 : (s.2 ++ [w])[j]? = some v := hv
          rwa [List.getElem?_append_left (by omega)] at hv2
        have hv0 := h.st.set v (List.mem_of_getElem? hv')
        have hvw : w ≠ v := fun e => hv0 (e ▸ hz)
        show (s.1.set w _).getD _ 0 = _ * (s.1.set w _).getD v 0
        rw [getD_set_ne' hvw]
        rcases Nat.lt_or_ge (4 * j + f') (4 * i + f) with h2 | h2
        · have hd := h.done j v f' h2 hv' hf' h1
          have : w ≠ (fAt g v f').tet.toNat := fun e => by
            rw [← e, hz] at hd
            exact sgn_mul_ne hv0 hd.symm
          rw [getD_set_ne' this, hd]
        · obtain ⟨rfl, rfl⟩ : j = i ∧ f' = f := by omega
          rw [hu] at hv'; cases hv'
          rw [hw, getD_set_self' hl]
    · by_cases hs : s.1.getD (fAt g u f).tet.toNat 0 = -sgnP (fAt g u f).p * s.1.getD u 0
      · rw [oFace_same h0 hz hs] at he
        cases he
        refine ⟨h.st, h.same, h.fresh, fun j v f' hj hv hf' h1 => ?_⟩
        rcases Nat.lt_or_ge (4 * j + f') (4 * i + f) with h2 | h2
        · exact h.done j v f' h2 hv hf' h1
        · obtain ⟨rfl, rfl⟩ : j = i ∧ f' = f := by omega
          rw [hu] at hv; cases hv; exact hs
      · rw [oFace_bad h0 hz hs] at he; cases he
theorem oTo_J {g : Glu} {out0 : List Int} (hg : okG g = true) {i u : Nat} {s : BSt} (h : OJ g out0 (4 * i) s) (hu : s.2[i]? = some u) : ∀ f, f ≤ 4 → ∀ {s'}, oTo g u s f = some s' → OJ g out0 (4 * i + f) s' ∧ s'.2[i]? = some u
  | 0, _, s', he => by cases he; exact ⟨h, hu⟩
  | f + 1, hf, s', he => by
    rw [oTo] at he
    obtain ⟨s1, h1, h2⟩ := Option.bind_eq_some_iff.1 he
    obtain ⟨k1, k2⟩ := oTo_J hg h hu f (by omega) h1
    exact ⟨oFace_J hg k1 k2 (by omega) h2, oFace_pre k2 h2⟩
theorem oBfs_J {g : Glu} {out0 : List Int} (hg : okG g = true) : ∀ (k i : Nat) {s s' : BSt}, OJ g out0 (4 * i) s → i + k = g.length → oBfs g k i s = some s' → ∃ q, 4 * s'.2.length ≤ q ∧ OJ g out0 q s'
  | 0, i, s, s', h, hk, he => by cases he; exact ⟨4 * i, by have := h.st.room; omega, h⟩
  | k + 1, i, s, s', h, hk, he => by
    by_cases hi : i < s.2.length
    · have hu := getD_nat hi
      rw [oBfs_step hu] at he
      obtain ⟨s1, h1, h2⟩ := Option.bind_eq_some_iff.1 he
      exact oBfs_J hg k (i + 1) (oTo_J hg h hu 4 (Nat.le_refl 4) h1).1 (by omega) h2
    · rw [oBfs_done hi] at he
      cases he; exact ⟨4 * i, by omega, h⟩
theorem OJ.start {g : Glu} {out : List Int} {t : Nat} (h : OAll g out) (ht : t < g.length) (h0 : out.getD t 0 = 0) : OJ g out (4 * 0) (out.set t 1, [t]) :=
  ⟨.start h ht h0, fun v hv => getD_set_ne' (fun e => hv (by simp [e])), fun u hu => by obtain rfl := List.mem_singleton.1 hu; exact h0, fun j u f hj => by omega⟩
/-- The values given so far are those of an orientation. -/
structure OC (g : Glu) (t : Nat) (out : List Int) : Prop where
  all : OAll g out
  vis : ∀ v, v < t → out.getD v 0 ≠ 0
  edge : ∀ v f, v < g.length → f < 4 → out.getD v 0 ≠ 0 → 0 ≤ (fAt g v f).tet → out.getD (fAt g v f).tet.toNat 0 = -sgnP (fAt g v f).p * out.getD v 0
theorem oBfs_mem {g : Glu} {t : Nat} : ∀ (k i : Nat) {s s' : BSt}, t ∈ s.2 → oBfs g k i s = some s' → t ∈ s'.2
  | 0, _, _, _, hs, he => by cases he; exact hs
  | k + 1, i, s, s', hs, he => by
    rw [oBfs] at he
    split at he
    · obtain ⟨s1, h1, h2⟩ := Option.bind_eq_some_iff.1 he
      obtain ⟨j, hj⟩ := List.getElem?_of_mem hs
      exact oBfs_mem k (i + 1) (List.mem_of_getElem? (oTo_pre hj 4 h1)) h2
    · cases he; exact hs
theorem oAll_C {g : Glu} (hg : okG g = true) : ∀ t, t ≤ g.length → ∀ {out}, oAll g t = some out → OC g t out
  | 0, ht, out, he => by
    have ha := oAll_ok hg 0 ht he
    cases he
    refine ⟨ha, fun v hv => absurd hv (Nat.not_lt_zero _), fun v f hv hf h => absurd ?_ h⟩
    simp [List.getD_eq_getElem?_getD, hv]
  | t + 1, ht, out, he => by
    have ha := oAll_ok hg (t + 1) ht he
    rw [oAll] at he
    obtain ⟨o1, h1, h2⟩ := Option.bind_eq_some_iff.1 he
    have ih := oAll_C hg t (by omega) h1
    rw [oNext] at h2
    split at h2
    · rename_i hc
      cases h2
      exact ⟨ha, fun v hv => by rcases Nat.lt_or_ge v t with h | h; exact ih.vis v h; obtain rfl : v = t := (by omega); exact hc, ih.edge⟩
    · rename_i hc
      obtain ⟨s, hs, e⟩ := Option.map_eq_some_iff.1 h2
      obtain ⟨o2, l⟩ := s
      have e : o2 = out := e
      subst e
      obtain ⟨q, hq, hJ⟩ := oBfs_J hg g.length 0 (OJ.start ih.all (by omega) (Decidable.not_not.1 hc)) (by omega) hs
      have htm : t ∈ l := oBfs_mem g.length 0 (List.mem_singleton.2 rfl) hs
      have hsame : ∀ v, v ∉ l → o2.getD v 0 = o1.getD v 0 := hJ.same
      have hset : ∀ u ∈ l, o2.getD u 0 ≠ 0 := hJ.st.set
      have hfresh : ∀ u ∈ l, o1.getD u 0 = 0 := hJ.fresh
      refine ⟨ha, fun v hv => ?_, fun v f hv hf h h0 => ?_⟩
      · by_cases hm : v ∈ l
        · exact hset v hm
        · rw [hsame v hm]
          rcases Nat.lt_or_ge v t with h | h
          · exact ih.vis v h
          · obtain rfl : v = t := by omega
            exact absurd htm hm
      · by_cases hm : v ∈ l
        · obtain ⟨j, hj⟩ := List.getElem?_of_mem hm
          have hjl := (List.getElem?_eq_some_iff.1 hj).1
          exact hJ.done j v f (by have hq : 4 * l.length ≤ q := hq; omega) hj hf h0
        · rw [hsame v hm] at h ⊢
          have e := ih.edge v f hv hf h h0
          by_cases hm2 : (fAt g v f).tet.toNat ∈ l
          · have := hfresh _ hm2
            rw [this] at e
            exact absurd e.symm (sgn_mul_ne h)
          · rw [hsame _ hm2, e]
/-- What is found is an orientation. -/
theorem ori_found {g : Glu} (hg : okG g = true) {out : List Int} (h : oriG g = some out) : Ori g (fun t => out.getD t 0) := by
  have hC := oAll_C hg g.length (Nat.le_refl _) h
  refine ⟨fun t ht => ?_, fun t f ht hf h0 => hC.edge t f ht hf (hC.vis t ht) h0⟩
  rcases hC.all.one t with e | e | e
  · exact absurd e (hC.vis t ht)
  · exact .inl e
  · exact .inr e
theorem oFace_go {g : Glu} {out0 : List Int} {o : Nat → Int} (hg : okG g = true) (ho : Ori g o) {t0 i f u : Nat} {s : BSt} (h : OJ g out0 (4 * i + f) s) (hC : ∀ v f, v < g.length → f < 4 → out0.getD v 0 ≠ 0 → 0 ≤ (fAt g v f).tet → out0.getD (fAt g v f).tet.toNat 0 = -sgnP (fAt g v f).p * out0.getD v 0)
    (hr : ∀ v ∈ s.2, s.1.getD v 0 = o v * o t0) (hu : s.2[i]? = some u) (hf : f < 4) : ∃ s', oFace g u f s = some s' ∧ ∀ v ∈ s'.2, s'.1.getD v 0 = o v * o t0 := by
  have hum : u ∈ s.2 := List.mem_of_getElem? hu
  have huN := h.st.mem u hum
  by_cases h0 : (fAt g u f).tet < 0
  · exact ⟨s, oFace_free h0, hr⟩
  · have h0' : 0 ≤ (fAt g u f).tet := by omega
    have hwN := okG_hi hg huN hf h0'
    have hgl := ho.glued u f huN hf h0'
    by_cases hz : s.1.getD (fAt g u f).tet.toNat 0 = 0
    · refine ⟨_, oFace_new h0 hz, fun v hv => ?_⟩
      have hl : (fAt g u f).tet.toNat < s.1.length := by rw [h.st.len]; exact hwN
      by_cases e : (fAt g u f).tet.toNat = v
      · subst e
        show (s.1.set _ _).getD _ 0 = _
        rw [getD_set_self' hl, hr u hum, hgl, Int.mul_assoc]
      · show (s.1.set _ _).getD v 0 = _
        rw [getD_set_ne' e]
        rcases List.mem_append.1 hv with hv | hv
        · exact hr v hv
        · exact absurd (List.mem_singleton.1 hv).symm e
    · have hm : (fAt g u f).tet.toNat ∈ s.2 := by
        by_cases hm : (fAt g u f).tet.toNat ∈ s.2
        · exact hm
        · exfalso
          rw [h.same _ hm] at hz
          obtain ⟨f', hf', hb⟩ := edge_back hg huN hf h0'
          have := hC (fAt g u f).tet.toNat f' hwN hf' hz (by rw [hb]; show 0 ≤ (u : Int); omega)
          rw [hb] at this
          have e : out0.getD u 0 = -sgnP (invP (fAt g u f).p) * out0.getD (fAt g u f).tet.toNat 0 := by simpa using this
          rw [h.fresh u hum] at e
          exact sgn_mul_ne hz e.symm
      refine ⟨s, oFace_same h0 hz ?_, hr⟩
      rw [hr _ hm, hr u hum, hgl, Int.mul_assoc]
theorem oTo_go {g : Glu} {out0 : List Int} {o : Nat → Int} (hg : okG g = true) (ho : Ori g o) {t0 i u : Nat} {s : BSt} (h : OJ g out0 (4 * i) s) (hC : ∀ v f, v < g.length → f < 4 → out0.getD v 0 ≠ 0 → 0 ≤ (fAt g v f).tet → out0.getD (fAt g v f).tet.toNat 0 = -sgnP (fAt g v f).p * out0.getD v 0)
    (hr : ∀ v ∈ s.2, s.1.getD v 0 = o v * o t0) (hu : s.2[i]? = some u) : ∀ f, f ≤ 4 → ∃ s', oTo g u s f = some s' ∧ ∀ v ∈ s'.2, s'.1.getD v 0 = o v * o t0
  | 0, _ => ⟨s, rfl, hr⟩
  | f + 1, hf => by
    obtain ⟨s1, h1, r1⟩ := oTo_go hg ho h hC hr hu f (by omega)
    obtain ⟨k1, k2⟩ := oTo_J hg h hu f (by omega) h1
    obtain ⟨s2, h2, r2⟩ := oFace_go hg ho k1 hC r1 k2 (by omega)
    exact ⟨s2, oTo_snoc h1 h2, r2⟩
theorem oBfs_go {g : Glu} {out0 : List Int} {o : Nat → Int} (hg : okG g = true) (ho : Ori g o) {t0 : Nat} (hC : ∀ v f, v < g.length → f < 4 → out0.getD v 0 ≠ 0 → 0 ≤ (fAt g v f).tet → out0.getD (fAt g v f).tet.toNat 0 = -sgnP (fAt g v f).p * out0.getD v 0) : ∀ (k i : Nat) {s : BSt}, OJ g out0 (4 * i) s → (∀ v ∈ s.2, s.1.getD v 0 = o v * o t0) → ∃ s', oBfs g k i s = some s'
  | 0, i, s, _, _ => ⟨s, rfl⟩
  | k + 1, i, s, h, hr => by
    by_cases hi : i < s.2.length
    · have hu := getD_nat hi
      obtain ⟨s1, h1, r1⟩ := oTo_go hg ho h hC hr hu 4 (Nat.le_refl 4)
      obtain ⟨s2, h2⟩ := oBfs_go hg ho hC k (i + 1) (oTo_J hg h hu 4 (Nat.le_refl 4) h1).1 r1
      exact ⟨s2, by rw [oBfs_step hu, h1]; exact h2⟩
    · exact ⟨s, oBfs_done hi⟩
theorem one_mul_self {x : Int} (h : x = 1 ∨ x = -1) : x * x = 1 := by rcases h with h | h <;> rw [h] <;> decide
theorem oAll_go {g : Glu} {o : Nat → Int} (hg : okG g = true) (ho : Ori g o) : ∀ t, t ≤ g.length → ∃ out, oAll g t = some out
  | 0, _ => ⟨_, rfl⟩
  | t + 1, ht => by
    obtain ⟨o1, h1⟩ := oAll_go hg ho t (by omega)
    have hC := oAll_C hg t (by omega) h1
    by_cases hc : o1.getD t 0 ≠ 0
    · exact ⟨o1, oAll_keep h1 hc⟩
    · have hl : t < o1.length := by rw [hC.all.len]; omega
      obtain ⟨s, hs⟩ := oBfs_go (t0 := t) hg ho hC.edge g.length 0 (OJ.start hC.all (by omega) (Decidable.not_not.1 hc)) (fun v hv => by
        obtain rfl := List.mem_singleton.1 hv
        show (o1.set v 1).getD v 0 = _
        rw [getD_set_self' hl, one_mul_self (ho.one v (by omega))])
      exact ⟨s.1, by rw [oAll_new h1 hc, hs]; rfl⟩
theorem ori_iff {g : Glu} (hg : okG g = true) : (oriG g).isSome = true ↔ ∃ o, Ori g o := by
  constructor
  · intro h
    obtain ⟨out, ho⟩ := Option.isSome_iff_exists.1 h
    exact ⟨_, ori_found hg ho⟩
  · rintro ⟨o, ho⟩
    obtain ⟨out, h⟩ := oAll_go hg ho g.length (Nat.le_refl _)
    rw [show oriG g = some out from h]; rfl
end Go.V
/- The twofold cover and the double: validity, orientations, parts. -/
namespace Go.V
open Go
def sh (b : Bool) (p : P4) : Bool := if sgnP p = 1 then !b else b
end Go.V
/- The statement GlueTwofold: the walk. -/
namespace Go.Proofs
open Go Go.V
set_option maxRecDepth 20000
theorem cntTo_ge {xs : List Int} {v : Nat} : ∀ i, v < i → xs.getD v 0 + 1 ≤ cntTo xs i
  | 0, h => absurd h (Nat.not_lt_zero _)
  | i + 1, h => by
    rw [cntTo]
    rcases Nat.lt_or_ge v i with h1 | h1
    · have := cntTo_ge (xs := xs) i h1; omega
    · obtain rfl : v = i := by omega
      omega
theorem cntTo_le {xs : List Int} {N : Int} (h0 : 0 ≤ N) (h : ∀ v, v < xs.length → xs.getD v 0 < N) : ∀ i, i ≤ xs.length → cntTo xs i ≤ N
  | 0, _ => h0
  | i + 1, hi => by
    have h1 := cntTo_le h0 h i (by omega)
    have h2 := h i (by omega)
    rw [cntTo]; omega
theorem cntTo_zero {xs : List Int} : ∀ i, 0 ≤ cntTo xs i
  | 0 => Int.le_refl _
  | i + 1 => by have := cntTo_zero (xs := xs) i; rw [cntTo]; omega
theorem cnt_partsN {g : Glu} (hg : okG g = true) : cntTo (partsOf g) (partsOf g).length = partsN g := by
  have hA := parts_A hg
  have hl := parts_len hg
  have h1 := cntTo_le (xs := partsOf g) hA.pos (fun v hv => hA.rng v (by omega)) (partsOf g).length (Nat.le_refl _)
  have h1 : cntTo (partsOf g) (partsOf g).length ≤ partsN g := h1
  have hp : 0 ≤ partsN g := hA.pos
  have h2 := cntTo_zero (xs := partsOf g) (partsOf g).length
  by_cases h0 : partsN g = 0
  · omega
  · obtain ⟨v, hv, e⟩ := hA.onto (partsN g - 1) (by omega) (by show partsN g - 1 < partsN g; omega)
    have e : (partsOf g).getD v 0 = partsN g - 1 := e
    have := cntTo_ge (xs := partsOf g) (v := v) (partsOf g).length (by omega)
    omega
theorem partsN_le {g : Glu} (hg : okG g = true) : partsN g ≤ g.length := (pAll_ok hg g.length (Nat.le_refl _)).2.2
theorem lw_count_parts {g : Glu} (b : Nat) (w : World) (hg : okG g = true) (h : w.ownsRow 0 3 1 (.slice (some ⟨b, 0, none⟩) g.length g.length) g.length (ints (partsOf g))) : Gives Tryz.prog 17 #[.slice (some ⟨b, 0, none⟩) g.length g.length] w Nil (fun _ : Unit => True) (fun _ => iv (partsN g)) (fun _ => []) := by
  have hl := parts_len hg
  have h1000 := okG_len hg
  have hN := partsN_le hg
  have hs := own_shape h
  have := lw_count (.slice (some ⟨b, 0, none⟩) g.length g.length) (partsOf g) w (by rw [hl]; exact hs) (own_all h) (by omega) (fun x hx => by
    obtain ⟨i, hi⟩ := List.getElem?_of_mem hx
    have hi2 := (List.getElem?_eq_some_iff.1 hi).1
    have hr := parts_rng hg (t := i) (by omega)
    rw [getD_some hi 0] at hr
    omega)
  rwa [cnt_partsN hg] at this
theorem gl_OrientB (base : Option Addr) (A : Addr) (cap : Nat) (g : Glu) (w : World) (hg : GluAt w base A g) (hok : okG g = true) : Gives Tryz.prog 15 #[gluV base cap g] w Nil (fun _ : Value => True) (fun v => .tuple #[v, .bool (oriG g).isSome, iv 0]) (fun _ => []) := by
  refine Calls.mono (gl_Orient base A cap g w hg hok) ?_
  rintro e w' ⟨b, _, he, hs⟩
  cases ho : oriG g with
  | none => exact ⟨.slice none 0 0, trivial, by rw [he]; exact congrArg Ending.returned (oriV_none ho b), hs.sub (HSub.nil _)⟩
  | some out => exact ⟨.slice (some ⟨b, 0, none⟩) g.length g.length, trivial, by rw [he]; exact congrArg Ending.returned (oriV_some ho b), hs.sub (HSub.nil _)⟩
end Go.Proofs
/- When two parts are equal but for a renumbering. -/
namespace Go.V
open Go
/-- The part of t in a is carried by τ and π into b. -/
structure Mt (a b : Glu) (t u : Nat) (τ : Nat → Nat) (π : Nat → P4) : Prop where
  root : τ t = u
  rng : ∀ v, Cn a t v → τ v < b.length ∧ okP (π v) = true
  inj : ∀ v v', Cn a t v → Cn a t v' → τ v = τ v' → v = v'
  free : ∀ v f, Cn a t v → f < 4 → ((fAt a v f).tet < 0 ↔ (fAt b (τ v) ((π v).at f).toNat).tet < 0)
  glue : ∀ v f, Cn a t v → f < 4 → 0 ≤ (fAt a v f).tet → (fAt b (τ v) ((π v).at f).toNat).tet = (τ (fAt a v f).tet.toNat : Int) ∧ π (fAt a v f).tet.toNat = compP (fAt b (τ v) ((π v).at f).toNat).p (compP (π v) (invP (fAt a v f).p))
def Iso (a b : Glu) (t u : Nat) : Prop := ∃ τ π, Mt a b t u τ π
theorem Mt.reroot {a b : Glu} {t u t' : Nat} {τ : Nat → Nat} {π : Nat → P4} (h : Mt a b t u τ π) (hc : Cn a t t') : Mt a b t' (τ t') τ π :=
  ⟨rfl, fun v hv => h.rng v (hc.trans hv), fun v v' hv hv' => h.inj v v' (hc.trans hv) (hc.trans hv'), fun v f hv => h.free v f (hc.trans hv), fun v f hv => h.glue v f (hc.trans hv)⟩
theorem p4_range {p : P4} (h : okP p = true) {f : Nat} : (p.at f).toNat < 4 := by have := okP_at h f; omega
/-- The way is carried. -/
theorem Mt.image {a b : Glu} {t u : Nat} {τ : Nat → Nat} {π : Nat → P4} (h : Mt a b t u τ π) {v : Nat} (hv : Cn a t v) : Cn b u (τ v) := by
  induction hv with
  | refl => rw [h.root]; exact .refl _
  | step hv hu hf h0 ih =>
    rename_i w f
    have hg := (h.glue w f hv hf h0).1
    have hr := h.rng w hv
    have := ih.step hr.1 (p4_range hr.2) (by rw [hg]; exact Int.natCast_nonneg _)
    rw [hg] at this
    simpa using this
/-- All of b's part is met. -/
theorem Mt.onto {a b : Glu} (ha : okG a = true) {t u : Nat} {τ : Nat → Nat} {π : Nat → P4} (ht : t < a.length) (h : Mt a b t u τ π) {w : Nat} (hw : Cn b u w) : ∃ v, Cn a t v ∧ τ v = w := by
  induction hw with
  | refl => exact ⟨t, .refl _, h.root⟩
  | step hw hu hf h0 ih =>
    rename_i w f
    obtain ⟨v, hv, rfl⟩ := ih
    have hr := h.rng v hv
    have hf' : ((π v).at ((invP (π v)).at f).toNat).toNat = f := by rw [at_inv hr.2 hf]; simp
    have hf4 := p4_range (invP_ok hr.2) (f := f)
    have h1 := h.free v _ hv hf4
    rw [hf'] at h1
    have h2 := h.glue v _ hv hf4 (by by_cases hx : (fAt a v ((invP (π v)).at f).toNat).tet < 0; have := h1.1 hx; omega; omega)
    rw [hf'] at h2
    exact ⟨(fAt a v ((invP (π v)).at f).toNat).tet.toNat, hv.step (hv.lt ha ht) hf4 (by by_cases hx : (fAt a v ((invP (π v)).at f).toNat).tet < 0; have := h1.1 hx; omega; omega), by rw [h2.1]; simp⟩
theorem Iso.symm {a b : Glu} (ha : okG a = true) (hb : okG b = true) {t u : Nat} (ht : t < a.length) (hu : u < b.length) (h : Iso a b t u) : Iso b a u t := by
  classical
  obtain ⟨τ, π, h⟩ := h
  have hex : ∀ w, Cn b u w → ∃ v, Cn a t v ∧ τ v = w := fun w hw => h.onto ha ht hw
  let σ : Nat → Nat := fun w => if hw : Cn b u w then Classical.choose (hex w hw) else 0
  have hσ : ∀ w, Cn b u w → Cn a t (σ w) ∧ τ (σ w) = w := fun w hw => by
    have := Classical.choose_spec (hex w hw)
    simp only [σ, hw, dif_pos]; exact this
  have hback : ∀ v, Cn a t v → σ (τ v) = v := fun v hv => by
    have h1 := hσ (τ v) (h.image hv)
    exact h.inj _ _ h1.1 hv h1.2
  refine ⟨σ, fun w => invP (π (σ w)), ?_, fun w hw => ?_, fun w w' hw hw' e => ?_, fun w f hw hf => ?_, fun w f hw hf h0 => ?_⟩
  · have := hback t (.refl _); rwa [h.root] at this
  · have h1 := hσ w hw
    exact ⟨h1.1.lt ha ht, invP_ok (h.rng _ h1.1).2⟩
  · rw [← (hσ w hw).2, ← (hσ w' hw').2, e]
  · have h1 := hσ w hw
    have hr := h.rng _ h1.1
    have hf' : ((π (σ w)).at ((invP (π (σ w))).at f).toNat).toNat = f := by rw [at_inv hr.2 hf]; simp
    have := h.free (σ w) ((invP (π (σ w))).at f).toNat h1.1 (p4_range (invP_ok hr.2))
    rw [hf', h1.2] at this
    exact this.symm
  · have h1 := hσ w hw
    have hr := h.rng _ h1.1
    have hf4 := p4_range (invP_ok hr.2) (f := f)
    have hf' : ((π (σ w)).at ((invP (π (σ w))).at f).toNat).toNat = f := by rw [at_inv hr.2 hf]; simp
    have e1 := h.free (σ w) ((invP (π (σ w))).at f).toNat h1.1 hf4
    rw [hf', h1.2] at e1
    have hx : 0 ≤ (fAt a (σ w) ((invP (π (σ w))).at f).toNat).tet := by
      by_cases hx : (fAt a (σ w) ((invP (π (σ w))).at f).toNat).tet < 0
      · have := e1.1 hx; omega
      · omega
    have e2 := h.glue (σ w) ((invP (π (σ w))).at f).toNat h1.1 hf4 hx
    rw [hf', h1.2] at e2
    have hc2 : Cn a t (fAt a (σ w) ((invP (π (σ w))).at f).toNat).tet.toNat := h1.1.step (h1.1.lt ha ht) hf4 hx
    have hbp := (okG_glued hb (hw.lt hb hu) hf h0).ok
    have hap := (okG_glued ha (h1.1.lt ha ht) hf4 hx).ok
    have hs : σ (fAt b w f).tet.toNat = (fAt a (σ w) ((invP (π (σ w))).at f).toNat).tet.toNat := by
      have : (fAt b w f).tet.toNat = τ (fAt a (σ w) ((invP (π (σ w))).at f).toNat).tet.toNat := by rw [e2.1]; simp
      rw [this, hback _ hc2]
    refine ⟨by rw [hs]; omega, ?_⟩
    show invP (π (σ (fAt b w f).tet.toNat)) = _
    rw [hs, e2.2, inv_comp_rev hbp (comp_ok hr.2 (invP_ok hap)), inv_comp_rev hr.2 (invP_ok hap), invP_inv hap, comp_assoc (invP_ok hbp)]
theorem Iso.trans {a b c : Glu} (ha : okG a = true) (hb : okG b = true) {t u w : Nat} (ht : t < a.length) (hu : u < b.length) (h : Iso a b t u) (k : Iso b c u w) : Iso a c t w := by
  obtain ⟨τ, π, h⟩ := h
  obtain ⟨τ', π', k⟩ := k
  refine ⟨fun v => τ' (τ v), fun v => compP (π' (τ v)) (π v), by show τ' (τ t) = w; rw [h.root, k.root], fun v hv => ?_, fun v v' hv hv' e => ?_, fun v f hv hf => ?_, fun v f hv hf h0 => ?_⟩
  · have h1 := h.rng v hv; have k1 := k.rng _ (h.image hv)
    exact ⟨k1.1, comp_ok k1.2 h1.2⟩
  · exact h.inj _ _ hv hv' (k.inj _ _ (h.image hv) (h.image hv') e)
  · have h1 := h.rng v hv
    rw [h.free v f hv hf, k.free (τ v) _ (h.image hv) (p4_range h1.2)]
    show _ ↔ (fAt c (τ' (τ v)) ((compP (π' (τ v)) (π v)).at f).toNat).tet < 0
    rw [comp_at _ _ hf]
  · have h1 := h.rng v hv; have k1 := k.rng _ (h.image hv)
    have e1 := h.glue v f hv hf h0
    have hy : 0 ≤ (fAt b (τ v) ((π v).at f).toNat).tet := by rw [e1.1]; exact Int.natCast_nonneg _
    have e2 := k.glue (τ v) _ (h.image hv) (p4_range h1.2) hy
    rw [e1.1, Int.toNat_natCast] at e2
    have hap := (okG_glued ha (hv.lt ha ht) hf h0).ok
    have hbp := (okG_glued hb ((h.image hv).lt hb hu) (p4_range h1.2) hy).ok
    show (fAt c (τ' (τ v)) ((compP (π' (τ v)) (π v)).at f).toNat).tet = (τ' (τ (fAt a v f).tet.toNat) : Int) ∧ compP (π' (τ (fAt a v f).tet.toNat)) (π (fAt a v f).tet.toNat) = compP (fAt c (τ' (τ v)) ((compP (π' (τ v)) (π v)).at f).toNat).p (compP (compP (π' (τ v)) (π v)) (invP (fAt a v f).p))
    rw [comp_at _ _ hf]
    refine ⟨e2.1, ?_⟩
    rw [e2.2, e1.2]
    generalize (fAt c (τ' (τ v)) ((π' (τ v)).at ((π v).at f).toNat).toNat).p = z
    have hq := invP_ok hap
    have h3 := comp_ok h1.2 hq
    rw [comp_assoc (comp_ok hbp h3), comp_assoc (comp_ok hbp h3), ← comp_assoc (p := invP (fAt b (τ v) ((π v).at f).toNat).p) h3, inv_comp hbp, id_comp h3, comp_assoc hq]
end Go.V
/- The search that matches two parts. -/
namespace Go.V
open Go
/-- Where to, by what, what is taken, the queue. -/
structure MSt where
  to : List Int
  by' : List P4
  tk : List Bool
  q : List Nat
def mX (a : Glu) (s f : Nat) : Fc := fAt a s f
def mY (b : Glu) (st : MSt) (s f : Nat) : Fc := fAt b (st.to.getD s 0).toNat ((pAt st.by' s).at f).toNat
def mWant (a b : Glu) (st : MSt) (s f : Nat) : P4 := compP (mY b st s f).p (compP (pAt st.by' s) (invP (mX a s f).p))
def mFace (a b : Glu) (s f : Nat) (st : MSt) : Option MSt :=
  if (mX a s f).tet < 0 ∨ (mY b st s f).tet < 0 then (if (mX a s f).tet = (mY b st s f).tet then some st else none)
  else if st.to.getD (mX a s f).tet.toNat 0 < 0 then
    (if st.tk.getD (mY b st s f).tet.toNat false = true then none
     else some ⟨st.to.set (mX a s f).tet.toNat (mY b st s f).tet, st.by'.set (mX a s f).tet.toNat (mWant a b st s f), st.tk.set (mY b st s f).tet.toNat true, st.q ++ [(mX a s f).tet.toNat]⟩)
  else if st.to.getD (mX a s f).tet.toNat 0 = (mY b st s f).tet ∧ pAt st.by' (mX a s f).tet.toNat = mWant a b st s f then some st else none
def mTo (a b : Glu) (s : Nat) (st : MSt) : Nat → Option MSt
  | 0 => some st
  | f + 1 => (mTo a b s st f).bind (mFace a b s f)
def mBfs (a b : Glu) : Nat → Nat → MSt → Option MSt
  | 0, _, st => some st
  | k + 1, i, st => if i < st.q.length then (mTo a b (st.q.getD i 0) st 4).bind (mBfs a b k (i + 1)) else some st
def mStart (a b : Glu) (t u : Nat) (p : P4) : MSt := ⟨(List.replicate a.length (-1)).set t u, (List.replicate a.length zP).set t p, (List.replicate b.length false).set u true, [t]⟩
def matchG (a b : Glu) (t u : Nat) (p : P4) : Bool := (mBfs a b a.length 0 (mStart a b t u p)).isSome
/-- What stays true in the search. -/
structure MJ (a b : Glu) (t0 : Nat) (n : Nat) (st : MSt) : Prop where
  pst : PSt a (st.to, st.q)
  lby : st.by'.length = a.length
  ltk : st.tk.length = b.length
  lab : ∀ v ∈ st.q, 0 ≤ st.to.getD v 0 ∧ st.to.getD v 0 < b.length ∧ okP (pAt st.by' v) = true ∧ Cn a t0 v
  inq : ∀ v, v < a.length → 0 ≤ st.to.getD v 0 → v ∈ st.q
  taken : ∀ w, w < b.length → (st.tk.getD w false = true ↔ ∃ v, v ∈ st.q ∧ st.to.getD v 0 = (w : Int))
  inj : ∀ v v', v ∈ st.q → v' ∈ st.q → st.to.getD v 0 = st.to.getD v' 0 → v = v'
  free : ∀ j v f, 4 * j + f < n → st.q[j]? = some v → f < 4 → ((mX a v f).tet < 0 ↔ (mY b st v f).tet < 0)
  glue : ∀ j v f, 4 * j + f < n → st.q[j]? = some v → f < 4 → 0 ≤ (mX a v f).tet → st.to.getD (mX a v f).tet.toNat 0 = (mY b st v f).tet ∧ pAt st.by' (mX a v f).tet.toNat = mWant a b st v f ∧ (mX a v f).tet.toNat ∈ st.q
theorem pAt_set_self {l : List P4} {i : Nat} {p : P4} (h : i < l.length) : pAt (l.set i p) i = p := by simp [pAt, List.getD_eq_getElem?_getD, h]
theorem pAt_set_ne {l : List P4} {i j : Nat} {p : P4} (h : i ≠ j) : pAt (l.set i p) j = pAt l j := by simp [pAt, List.getD_eq_getElem?_getD, List.getElem?_set_ne h]
theorem getB_set_self {l : List Bool} {i : Nat} {x : Bool} (h : i < l.length) : (l.set i x).getD i false = x := by simp [List.getD_eq_getElem?_getD, h]
theorem getB_set_ne {l : List Bool} {i j : Nat} {x : Bool} (h : i ≠ j) : (l.set i x).getD j false = l.getD j false := by simp [List.getD_eq_getElem?_getD, List.getElem?_set_ne h]
/-- The step where a new tetrahedron is met. -/
def mPut (st : MSt) (w : Nat) (y : Int) (p : P4) : MSt := ⟨st.to.set w y, st.by'.set w p, st.tk.set y.toNat true, st.q ++ [w]⟩
theorem mFace_new {a b : Glu} {s f : Nat} {st : MSt} (h : ¬ ((mX a s f).tet < 0 ∨ (mY b st s f).tet < 0)) (h0 : st.to.getD (mX a s f).tet.toNat 0 < 0) (h1 : st.tk.getD (mY b st s f).tet.toNat false = false) :
    mFace a b s f st = some (mPut st (mX a s f).tet.toNat (mY b st s f).tet (mWant a b st s f)) := by
  rw [mFace, if_neg h, if_pos h0, if_neg (by rw [h1]; decide)]; rfl
theorem mFace_taken {a b : Glu} {s f : Nat} {st : MSt} (h : ¬ ((mX a s f).tet < 0 ∨ (mY b st s f).tet < 0)) (h0 : st.to.getD (mX a s f).tet.toNat 0 < 0) (h1 : st.tk.getD (mY b st s f).tet.toNat false = true) : mFace a b s f st = none := by
  rw [mFace, if_neg h, if_pos h0, if_pos h1]
theorem mFace_same {a b : Glu} {s f : Nat} {st : MSt} (h : ¬ ((mX a s f).tet < 0 ∨ (mY b st s f).tet < 0)) (h0 : ¬ st.to.getD (mX a s f).tet.toNat 0 < 0) (h1 : st.to.getD (mX a s f).tet.toNat 0 = (mY b st s f).tet) (h2 : pAt st.by' (mX a s f).tet.toNat = mWant a b st s f) : mFace a b s f st = some st := by
  rw [mFace, if_neg h, if_neg h0, if_pos ⟨h1, h2⟩]
theorem mFace_bad {a b : Glu} {s f : Nat} {st : MSt} (h : ¬ ((mX a s f).tet < 0 ∨ (mY b st s f).tet < 0)) (h0 : ¬ st.to.getD (mX a s f).tet.toNat 0 < 0) (h1 : ¬ (st.to.getD (mX a s f).tet.toNat 0 = (mY b st s f).tet ∧ pAt st.by' (mX a s f).tet.toNat = mWant a b st s f)) : mFace a b s f st = none := by
  rw [mFace, if_neg h, if_neg h0, if_neg h1]
theorem mFace_free {a b : Glu} {s f : Nat} {st : MSt} (h : (mX a s f).tet < 0 ∨ (mY b st s f).tet < 0) (h1 : (mX a s f).tet = (mY b st s f).tet) : mFace a b s f st = some st := by rw [mFace, if_pos h, if_pos h1]
theorem mFace_differ {a b : Glu} {s f : Nat} {st : MSt} (h : (mX a s f).tet < 0 ∨ (mY b st s f).tet < 0) (h1 : ¬ (mX a s f).tet = (mY b st s f).tet) : mFace a b s f st = none := by rw [mFace, if_pos h, if_neg h1]
theorem MJ.faces {a b : Glu} (ha : okG a = true) (hb : okG b = true) {t0 n : Nat} {st : MSt} (h : MJ a b t0 n st) {s f : Nat} (hs : s ∈ st.q) (hf : f < 4) : s < a.length ∧ (st.to.getD s 0).toNat < b.length ∧ ((pAt st.by' s).at f).toNat < 4 ∧
    (0 ≤ (mX a s f).tet → (mX a s f).tet.toNat < a.length ∧ okP (mX a s f).p = true) ∧ (0 ≤ (mY b st s f).tet → (mY b st s f).tet < b.length ∧ okP (mY b st s f).p = true) := by
  have hl := h.lab s hs
  have hsa := h.pst.mem s hs
  have hsb : (st.to.getD s 0).toNat < b.length := by omega
  have hp4 := p4_range hl.2.2.1 (f := f)
  refine ⟨hsa, hsb, hp4, fun h0 => ⟨okG_hi ha hsa hf h0, (okG_glued ha hsa hf h0).ok⟩, fun h0 => ?_⟩
  have hF := okG_glued hb hsb hp4 h0
  exact ⟨hF.hi, hF.ok⟩
theorem mY_put {b : Glu} {st : MSt} {w v f : Nat} {y : Int} {p : P4} (h : w ≠ v) : mY b (mPut st w y p) v f = mY b st v f := by
  rw [mY, mY, mPut]
  show fAt b ((st.to.set w y).getD v 0).toNat ((pAt (st.by'.set w p) v).at f).toNat = _
  rw [getD_set_ne' h, pAt_set_ne h]
theorem mWant_put {a b : Glu} {st : MSt} {w v f : Nat} {y : Int} {p : P4} (h : w ≠ v) : mWant a b (mPut st w y p) v f = mWant a b st v f := by
  rw [mWant, mWant, mY_put h]
  show compP _ (compP (pAt (st.by'.set w p) v) _) = _
  rw [pAt_set_ne h]
theorem mFace_J {a b : Glu} (ha : okG a = true) (hb : okG b = true) {t0 i f s : Nat} {st st' : MSt} (h : MJ a b t0 (4 * i + f) st) (hs : st.q[i]? = some s) (hf : f < 4) (he : mFace a b s f st = some st') : MJ a b t0 (4 * i + f + 1) st' := by
  have hsm : s ∈ st.q := List.mem_of_getElem? hs
  obtain ⟨hsa, hsb, hp4, hX, hY⟩ := h.faces ha hb hsm hf
  by_cases hfr : (mX a s f).tet < 0 ∨ (mY b st s f).tet < 0
  · by_cases heq : (mX a s f).tet = (mY b st s f).tet
    · rw [mFace_free hfr heq] at he
      cases he
      refine ⟨h.pst, h.lby, h.ltk, h.lab, h.inq, h.taken, h.inj, fun j v f' hj hv hf' => ?_, fun j v f' hj hv hf' h1 => ?_⟩
      · rcases Nat.lt_or_ge (4 * j + f') (4 * i + f) with h2 | h2
        · exact h.free j v f' h2 hv hf'
        · obtain ⟨rfl, rfl⟩ : j = i ∧ f' = f := by omega
          rw [hs] at hv; cases hv; rw [heq]
      · rcases Nat.lt_or_ge (4 * j + f') (4 * i + f) with h2 | h2
        · exact h.glue j v f' h2 hv hf' h1
        · obtain ⟨rfl, rfl⟩ : j = i ∧ f' = f := by omega
          rw [hs] at hv; cases hv; omega
    · rw [mFace_differ hfr heq] at he; cases he
  · have hx0 : 0 ≤ (mX a s f).tet := by omega
    have hy0 : 0 ≤ (mY b st s f).tet := by omega
    obtain ⟨hxa, hxp⟩ := hX hx0
    obtain ⟨hyb, hyp⟩ := hY hy0
    by_cases hz : st.to.getD (mX a s f).tet.toNat 0 < 0
    · cases hk : st.tk.getD (mY b st s f).tet.toNat false
      · rw [mFace_new hfr hz hk] at he
        cases he
        have hwn : (mX a s f).tet.toNat ∉ st.q := fun hm => by have := (h.lab _ hm).1; omega
        have hcn : Cn a t0 (mX a s f).tet.toNat := ((h.lab s hsm).2.2.2).step hsa hf hx0
        have hwok : okP (mWant a b st s f) = true := comp_ok hyp (comp_ok (h.lab s hsm).2.2.1 (invP_ok hxp))
        have hws : (mX a s f).tet.toNat ≠ s := fun e => hwn (by rw [e]; exact hsm)
        have hnt : ∀ v, v ∈ st.q → st.to.getD v 0 ≠ (mY b st s f).tet := fun v hv e => by
          have := (h.taken (mY b st s f).tet.toNat (by omega)).2 ⟨v, hv, by rw [e]; omega⟩
          rw [hk] at this; cases this
        have hwantP := mWant_put (a := a) (b := b) (st := st) (v := s) (f := f) (y := (mY b st s f).tet) (p := mWant a b st s f) hws
        have hyP := mY_put (b := b) (st := st) (v := s) (f := f) (y := (mY b st s f).tet) (p := mWant a b st s f) hws
        have hxr : mX a s f = fAt a s f := rfl
        generalize hw : (mX a s f).tet.toNat = w at hz hwn hcn hws hxa hwantP hyP ⊢
        generalize hyy : (mY b st s f).tet = y at hk hy0 hyb hnt hwantP hyP ⊢
        generalize hpp : mWant a b st s f = p at hwok hwantP hyP ⊢
        have hl : w < st.to.length := by rw [h.pst.len]; exact hxa
        have hlb : w < st.by'.length := by rw [h.lby]; exact hxa
        have hlk : y.toNat < st.tk.length := by rw [h.ltk]; omega
        have hne : ∀ v, v ∈ st.q → w ≠ v := fun v hv e => hwn (e ▸ hv)
        have hil := (List.getElem?_eq_some_iff.1 hs).1
        have hpre : ∀ j v f', 4 * j + f' < 4 * i + f + 1 → (st.q ++ [w])[j]? = some v → f' < 4 → st.q[j]? = some v := fun j v f' hj hv hf' => by
          rwa [List.getElem?_append_left (by omega)] at hv
        have hst : PSt a (st.to.set w y, st.q ++ [w]) := by
          have hroom := negs_set (out := st.to) (b := w) (k := y) hl hz hy0
          refine ⟨by simp [h.pst.len], fun u hu => ?_, ?_⟩
          · rcases List.mem_append.1 hu with hu | hu
            · exact h.pst.mem u hu
            · rw [List.mem_singleton.1 hu]; exact hxa
          · have := h.pst.room
            have this : st.q.length + negs st.to ≤ a.length := this
            show (st.q ++ [w]).length + negs (st.to.set w y) ≤ a.length
            simp only [List.length_append, List.length_singleton]; omega
        refine ⟨hst, by simp [mPut, h.lby], by simp [mPut, h.ltk], fun v hv => ?_, fun v hv h0 => ?_, fun u hu => ?_, fun v v' hv hv' e => ?_, fun j v f' hj hv hf' => ?_, fun j v f' hj hv hf' h1 => ?_⟩
        · rcases List.mem_append.1 hv with hv | hv
          · show 0 ≤ (st.to.set w y).getD v 0 ∧ (st.to.set w y).getD v 0 < b.length ∧ okP (pAt (st.by'.set w p) v) = true ∧ Cn a t0 v
            rw [getD_set_ne' (hne v hv), pAt_set_ne (hne v hv)]; exact h.lab v hv
          · obtain rfl := List.mem_singleton.1 hv
            show 0 ≤ (st.to.set v y).getD v 0 ∧ (st.to.set v y).getD v 0 < b.length ∧ okP (pAt (st.by'.set v p) v) = true ∧ Cn a t0 v
            rw [getD_set_self' hl, pAt_set_self hlb]
            exact ⟨hy0, hyb, hwok, hcn⟩
        · by_cases e : w = v
          · exact List.mem_append.2 (.inr (by simp [e]))
          · have h0 : 0 ≤ (st.to.set w y).getD v 0 := h0
            rw [getD_set_ne' e] at h0
            exact List.mem_append.2 (.inl (h.inq v hv h0))
        · show (st.tk.set y.toNat true).getD u false = true ↔ ∃ v, v ∈ st.q ++ [w] ∧ (st.to.set w y).getD v 0 = (u : Int)
          by_cases e : y.toNat = u
          · subst e
            rw [getB_set_self hlk]
            exact ⟨fun _ => ⟨w, List.mem_append.2 (.inr (by simp)), by rw [getD_set_self' hl]; omega⟩, fun _ => rfl⟩
          · rw [getB_set_ne e, h.taken u hu]
            constructor
            · rintro ⟨v, hv, e2⟩
              exact ⟨v, List.mem_append.2 (.inl hv), by rw [getD_set_ne' (hne v hv)]; exact e2⟩
            · rintro ⟨v, hv, e2⟩
              rcases List.mem_append.1 hv with hv | hv
              · rw [getD_set_ne' (hne v hv)] at e2; exact ⟨v, hv, e2⟩
              · obtain rfl := List.mem_singleton.1 hv
                rw [getD_set_self' hl] at e2; omega
        · have e : (st.to.set w y).getD v 0 = (st.to.set w y).getD v' 0 := e
          rcases List.mem_append.1 hv with k1 | k1 <;> rcases List.mem_append.1 hv' with k2 | k2
          · rw [getD_set_ne' (hne v k1), getD_set_ne' (hne v' k2)] at e; exact h.inj v v' k1 k2 e
          · have e2 : v' = w := List.mem_singleton.1 k2
            rw [e2, getD_set_ne' (hne v k1), getD_set_self' hl] at e; exact absurd e (hnt v k1)
          · have e2 : v = w := List.mem_singleton.1 k1
            rw [e2, getD_set_ne' (hne v' k2), getD_set_self' hl] at e; exact absurd e.symm (hnt v' k2)
          · rw [List.mem_singleton.1 k1, List.mem_singleton.1 k2]
        · have hv' := hpre j v f' hj hv hf'
          have hvq := List.mem_of_getElem? hv'
          show (mX a v f').tet < 0 ↔ (mY b (mPut st w y p) v f').tet < 0
          rw [mY_put (hne v hvq)]
          rcases Nat.lt_or_ge (4 * j + f') (4 * i + f) with h2 | h2
          · exact h.free j v f' h2 hv' hf'
          · obtain ⟨rfl, rfl⟩ : j = i ∧ f' = f := by omega
            rw [hs] at hv'; cases hv'; omega
        · have hv' := hpre j v f' hj hv hf'
          have hvq := List.mem_of_getElem? hv'
          show (st.to.set w y).getD (mX a v f').tet.toNat 0 = (mY b (mPut st w y p) v f').tet ∧ pAt (st.by'.set w p) (mX a v f').tet.toNat = mWant a b (mPut st w y p) v f' ∧ (mX a v f').tet.toNat ∈ st.q ++ [w]
          rw [mY_put (hne v hvq), mWant_put (hne v hvq)]
          rcases Nat.lt_or_ge (4 * j + f') (4 * i + f) with h2 | h2
          · obtain ⟨g1, g2, g3⟩ := h.glue j v f' h2 hv' hf' h1
            rw [getD_set_ne' (hne _ g3), pAt_set_ne (hne _ g3)]
            exact ⟨g1, g2, List.mem_append.2 (.inl g3)⟩
          · obtain ⟨rfl, rfl⟩ : j = i ∧ f' = f := by omega
            rw [hs] at hv'; cases hv'
            rw [hw, getD_set_self' hl, pAt_set_self hlb, hyy, hpp]
            exact ⟨rfl, rfl, List.mem_append.2 (.inr (by simp))⟩
      · rw [mFace_taken hfr hz hk] at he; cases he
    · by_cases hsame : st.to.getD (mX a s f).tet.toNat 0 = (mY b st s f).tet ∧ pAt st.by' (mX a s f).tet.toNat = mWant a b st s f
      · rw [mFace_same hfr hz hsame.1 hsame.2] at he
        cases he
        refine ⟨h.pst, h.lby, h.ltk, h.lab, h.inq, h.taken, h.inj, fun j v f' hj hv hf' => ?_, fun j v f' hj hv hf' h1 => ?_⟩
        · rcases Nat.lt_or_ge (4 * j + f') (4 * i + f) with h2 | h2
          · exact h.free j v f' h2 hv hf'
          · obtain ⟨rfl, rfl⟩ : j = i ∧ f' = f := by omega
            rw [hs] at hv; cases hv; omega
        · rcases Nat.lt_or_ge (4 * j + f') (4 * i + f) with h2 | h2
          · exact h.glue j v f' h2 hv hf' h1
          · obtain ⟨rfl, rfl⟩ : j = i ∧ f' = f := by omega
            rw [hs] at hv; cases hv
            exact ⟨hsame.1, hsame.2, h.inq _ hxa (by omega)⟩
      · rw [mFace_bad hfr hz hsame] at he; cases he
theorem mFace_pre {a b : Glu} {s f i u : Nat} {st st' : MSt} (h : st.q[i]? = some u) (he : mFace a b s f st = some st') : st'.q[i]? = some u := by
  rw [mFace] at he
  split at he
  · split at he
    · cases he; exact h
    · cases he
  · split at he
    · split at he
      · cases he
      · cases he
        show (st.q ++ _)[i]? = _
        rw [List.getElem?_append_left (List.getElem?_eq_some_iff.1 h).1]; exact h
    · split at he
      · cases he; exact h
      · cases he
theorem mTo_J {a b : Glu} (ha : okG a = true) (hb : okG b = true) {t0 i s : Nat} {st : MSt} (h : MJ a b t0 (4 * i) st) (hs : st.q[i]? = some s) : ∀ f, f ≤ 4 → ∀ {st'}, mTo a b s st f = some st' → MJ a b t0 (4 * i + f) st' ∧ st'.q[i]? = some s
  | 0, _, st', he => by cases he; exact ⟨h, hs⟩
  | f + 1, hf, st', he => by
    rw [mTo] at he
    obtain ⟨s1, h1, h2⟩ := Option.bind_eq_some_iff.1 he
    obtain ⟨k1, k2⟩ := mTo_J ha hb h hs f (by omega) h1
    exact ⟨mFace_J ha hb k1 k2 (by omega) h2, mFace_pre k2 h2⟩
theorem mBfs_step {a b : Glu} {k i s : Nat} {st : MSt} (h : st.q[i]? = some s) : mBfs a b (k + 1) i st = (mTo a b s st 4).bind (mBfs a b k (i + 1)) := by
  have hi : i < st.q.length := (List.getElem?_eq_some_iff.1 h).1
  rw [mBfs, if_pos hi, List.getD_eq_getElem?_getD, h]; rfl
theorem mBfs_done {a b : Glu} {k i : Nat} {st : MSt} (h : ¬ i < st.q.length) : mBfs a b k i st = some st := by
  cases k
  · rfl
  · rw [mBfs, if_neg h]
theorem mBfs_J {a b : Glu} (ha : okG a = true) (hb : okG b = true) {t0 : Nat} : ∀ (k i : Nat) {st st' : MSt}, MJ a b t0 (4 * i) st → i + k = a.length → mBfs a b k i st = some st' → ∃ n, 4 * st'.q.length ≤ n ∧ MJ a b t0 n st'
  | 0, i, st, st', h, hk, he => by
    have hr : st.q.length + negs st.to ≤ a.length := h.pst.room
    have hq : 4 * st.q.length ≤ 4 * i := by omega
    cases he; exact ⟨4 * i, hq, h⟩
  | k + 1, i, st, st', h, hk, he => by
    by_cases hi : i < st.q.length
    · have hs := getD_nat hi
      rw [mBfs_step hs] at he
      obtain ⟨s1, h1, h2⟩ := Option.bind_eq_some_iff.1 he
      exact mBfs_J ha hb k (i + 1) (mTo_J ha hb h hs 4 (Nat.le_refl 4) h1).1 (by omega) h2
    · rw [mBfs_done hi] at he
      cases he; exact ⟨4 * i, by omega, h⟩
theorem MJ.start {a b : Glu} {t u : Nat} {p : P4} (ht : t < a.length) (hu : u < b.length) (hp : okP p = true) : MJ a b t (4 * 0) (mStart a b t u p) := by
  have hr : ∀ v, t ≠ v → v < a.length → ((List.replicate a.length (-1 : Int)).set t u).getD v 0 = -1 := fun v hv hva => by
    rw [getD_set_ne' hv]; simp [List.getD_eq_getElem?_getD, hva]
  have hts : ((List.replicate a.length (-1 : Int)).set t u).getD t 0 = u := getD_set_self' (by simpa using ht)
  refine ⟨PSt.start (by simp) ht (by omega) (by simp [List.getD_eq_getElem?_getD, ht]), by simp [mStart], by simp [mStart], fun v hv => ?_, fun v hv h0 => ?_, fun w hw => ?_, fun v v' hv hv' _ => ?_, fun j v f hj => by omega, fun j v f hj => by omega⟩
  · obtain rfl := List.mem_singleton.1 hv
    show 0 ≤ ((List.replicate a.length (-1 : Int)).set v u).getD v 0 ∧ ((List.replicate a.length (-1 : Int)).set v u).getD v 0 < b.length ∧ okP (pAt ((List.replicate a.length zP).set v p) v) = true ∧ Cn a v v
    rw [hts, pAt_set_self (by simpa using ht)]
    exact ⟨by omega, by omega, hp, .refl _⟩
  · by_cases e : t = v
    · exact List.mem_singleton.2 e.symm
    · have h0 : 0 ≤ ((List.replicate a.length (-1 : Int)).set t u).getD v 0 := h0
      rw [hr v e hv] at h0; exact absurd h0 (by decide)
  · show ((List.replicate b.length false).set u true).getD w false = true ↔ ∃ v, v ∈ [t] ∧ ((List.replicate a.length (-1 : Int)).set t u).getD v 0 = (w : Int)
    by_cases e : u = w
    · subst e
      rw [getB_set_self (by simpa using hu)]
      exact ⟨fun _ => ⟨t, by simp, hts⟩, fun _ => rfl⟩
    · rw [getB_set_ne e]
      constructor
      · intro h; simp [List.getD_eq_getElem?_getD, hw] at h
      · rintro ⟨v, hv, e2⟩
        obtain rfl := List.mem_singleton.1 hv
        rw [hts] at e2; omega
  · rw [List.mem_singleton.1 hv, List.mem_singleton.1 hv']
theorem mBfs_mem {a b : Glu} {t : Nat} : ∀ (k i : Nat) {st st' : MSt}, st.q[0]? = some t → mBfs a b k i st = some st' → st'.q[0]? = some t
  | 0, _, _, _, hs, he => by cases he; exact hs
  | k + 1, i, st, st', hs, he => by
    rw [mBfs] at he
    split at he
    · obtain ⟨s1, h1, h2⟩ := Option.bind_eq_some_iff.1 he
      refine mBfs_mem k (i + 1) ?_ h2
      have key : ∀ f {st1}, mTo a b (st.q.getD i 0) st f = some st1 → st1.q[0]? = some t := by
        intro f
        induction f with
        | zero => intro st1 h; cases h; exact hs
        | succ f ih =>
          intro st1 h
          rw [mTo] at h
          obtain ⟨s2, k1, k2⟩ := Option.bind_eq_some_iff.1 h
          exact mFace_pre (ih k1) k2
      exact key 4 h1
    · cases he; exact hs
/-- What has been given to a tetrahedron stays. -/
theorem mFace_keep {a b : Glu} {s f v : Nat} {st st' : MSt} (hv : 0 ≤ st.to.getD v 0) (he : mFace a b s f st = some st') : st'.to.getD v 0 = st.to.getD v 0 := by
  rw [mFace] at he
  split at he
  · split at he
    · cases he; rfl
    · cases he
  · split at he
    · split at he
      · cases he
      · rename_i hz _
        cases he
        exact getD_set_ne' (fun e => by rw [e] at hz; omega)
    · split at he
      · cases he; rfl
      · cases he
theorem mTo_keep {a b : Glu} {s v : Nat} {st : MSt} (hv : 0 ≤ st.to.getD v 0) : ∀ f {st'}, mTo a b s st f = some st' → st'.to.getD v 0 = st.to.getD v 0
  | 0, st', he => by cases he; rfl
  | f + 1, st', he => by
    rw [mTo] at he
    obtain ⟨s1, h1, h2⟩ := Option.bind_eq_some_iff.1 he
    have k := mTo_keep hv f h1
    rw [mFace_keep (by rw [k]; exact hv) h2, k]
theorem mBfs_keep {a b : Glu} {v : Nat} : ∀ (k i : Nat) {st st' : MSt}, 0 ≤ st.to.getD v 0 → mBfs a b k i st = some st' → st'.to.getD v 0 = st.to.getD v 0
  | 0, _, _, _, _, he => by cases he; rfl
  | k + 1, i, st, st', hv, he => by
    rw [mBfs] at he
    split at he
    · obtain ⟨s1, h1, h2⟩ := Option.bind_eq_some_iff.1 he
      have e := mTo_keep hv 4 h1
      rw [mBfs_keep k (i + 1) (by rw [e]; exact hv) h2, e]
    · cases he; rfl
/-- What the search finds carries the part. -/
theorem match_iso {a b : Glu} (ha : okG a = true) (hb : okG b = true) {t u : Nat} {p : P4} (ht : t < a.length) (hu : u < b.length) (hp : okP p = true) (h : matchG a b t u p = true) : Iso a b t u := by
  obtain ⟨st, he⟩ := Option.isSome_iff_exists.1 h
  obtain ⟨n, hn, hJ⟩ := mBfs_J ha hb a.length 0 (MJ.start ht hu hp) (by omega) he
  have hts : (mStart a b t u p).to.getD t 0 = u := getD_set_self' (by simpa using ht)
  have hroot := mBfs_keep a.length 0 (v := t) (by rw [hts]; omega) he
  rw [hts] at hroot
  have htq : t ∈ st.q := List.mem_of_getElem? (mBfs_mem a.length 0 rfl he)
  have hall : ∀ v, Cn a t v → v ∈ st.q := fun v hv => by
    induction hv with
    | refl => exact htq
    | step hv hu2 hf h0 ih =>
      obtain ⟨j, hj⟩ := List.getElem?_of_mem ih
      have hjl := (List.getElem?_eq_some_iff.1 hj).1
      exact (hJ.glue j _ _ (by omega) hj hf h0).2.2
  refine ⟨fun v => (st.to.getD v 0).toNat, fun v => pAt st.by' v, by show (st.to.getD t 0).toNat = u; rw [hroot]; simp, fun v hv => ?_, fun v v' hv hv' e => ?_, fun v f hv hf => ?_, fun v f hv hf h0 => ?_⟩
  · have hl := hJ.lab v (hall v hv)
    exact ⟨by show (st.to.getD v 0).toNat < _; omega, hl.2.2.1⟩
  · have hl := hJ.lab v (hall v hv); have hl' := hJ.lab v' (hall v' hv')
    have e : (st.to.getD v 0).toNat = (st.to.getD v' 0).toNat := e
    exact hJ.inj v v' (hall v hv) (hall v' hv') (by omega)
  · obtain ⟨j, hj⟩ := List.getElem?_of_mem (hall v hv)
    have hjl := (List.getElem?_eq_some_iff.1 hj).1
    exact hJ.free j v f (by omega) hj hf
  · obtain ⟨j, hj⟩ := List.getElem?_of_mem (hall v hv)
    have hjl := (List.getElem?_eq_some_iff.1 hj).1
    obtain ⟨g1, g2, g3⟩ := hJ.glue j v f (by omega) hj hf h0
    have hl := (hJ.lab _ g3).1
    refine ⟨?_, g2⟩
    show (mY b st v f).tet = ((st.to.getD (mX a v f).tet.toNat 0).toNat : Int)
    omega
/-- The search does not fail where the part can be carried. -/
theorem mFace_go {a b : Glu} (ha : okG a = true) (hb : okG b = true) {t0 u0 i f s : Nat} {st : MSt} {τ : Nat → Nat} {π : Nat → P4} (hm : Mt a b t0 u0 τ π) (h : MJ a b t0 (4 * i + f) st) (hr : ∀ v ∈ st.q, st.to.getD v 0 = τ v ∧ pAt st.by' v = π v) (hs : st.q[i]? = some s) (hf : f < 4) :
    ∃ st', mFace a b s f st = some st' ∧ ∀ v ∈ st'.q, st'.to.getD v 0 = τ v ∧ pAt st'.by' v = π v := by
  have hsm : s ∈ st.q := List.mem_of_getElem? hs
  have hcn := (h.lab s hsm).2.2.2
  obtain ⟨e1, e2⟩ := hr s hsm
  have eY : mY b st s f = fAt b (τ s) ((π s).at f).toNat := by rw [mY, e1, e2, Int.toNat_natCast]
  have hfree := hm.free s f hcn hf
  rw [← eY] at hfree
  have hfree : (mX a s f).tet < 0 ↔ (mY b st s f).tet < 0 := hfree
  obtain ⟨hsa, hsb, hp4, hX, hY⟩ := h.faces ha hb hsm hf
  by_cases hx : (mX a s f).tet < 0
  · have hy := hfree.1 hx
    refine ⟨st, mFace_free (.inl hx) ?_, hr⟩
    have k1 : mX a s f = noF := okG_free ha hsa hf hx
    have k2 : mY b st s f = noF := okG_free hb hsb hp4 hy
    rw [k1, k2]
  · have hy : ¬ (mY b st s f).tet < 0 := fun h2 => hx (hfree.2 h2)
    have hfr : ¬ ((mX a s f).tet < 0 ∨ (mY b st s f).tet < 0) := by omega
    have hg := hm.glue s f hcn hf (by have hx : ¬ (fAt a s f).tet < 0 := hx; omega)
    rw [← eY] at hg
    have g1 : (mY b st s f).tet = (τ (mX a s f).tet.toNat : Int) := hg.1
    have g2 : π (mX a s f).tet.toNat = mWant a b st s f := by rw [mWant, e2]; exact hg.2
    have hcx : Cn a t0 (mX a s f).tet.toNat := hcn.step hsa hf (by have hx : ¬ (fAt a s f).tet < 0 := hx; omega)
    obtain ⟨hxa, _⟩ := hX (by omega)
    by_cases hz : st.to.getD (mX a s f).tet.toNat 0 < 0
    · have hk : st.tk.getD (mY b st s f).tet.toNat false = false := by
        cases hk : st.tk.getD (mY b st s f).tet.toNat false
        · rfl
        · exfalso
          obtain ⟨hyb, _⟩ := hY (by omega)
          obtain ⟨v, hv, e⟩ := (h.taken (mY b st s f).tet.toNat (by omega)).1 hk
          rw [(hr v hv).1, g1] at e
          have := hm.inj v _ (h.lab v hv).2.2.2 hcx (Int.ofNat_inj.1 (by simpa using e))
          have h3 := (h.lab v hv).1
          rw [this] at h3; omega
      refine ⟨_, mFace_new hfr hz hk, fun v hv => ?_⟩
      have hl : (mX a s f).tet.toNat < st.to.length := by rw [h.pst.len]; exact hxa
      have hlb : (mX a s f).tet.toNat < st.by'.length := by rw [h.lby]; exact hxa
      by_cases e : (mX a s f).tet.toNat = v
      · subst e
        show (st.to.set _ _).getD _ 0 = _ ∧ pAt (st.by'.set _ _) _ = _
        rw [getD_set_self' hl, pAt_set_self hlb]
        exact ⟨g1, g2.symm⟩
      · show (st.to.set _ _).getD v 0 = _ ∧ pAt (st.by'.set _ _) v = _
        rw [getD_set_ne' e, pAt_set_ne e]
        rcases List.mem_append.1 hv with hv | hv
        · exact hr v hv
        · exact absurd (List.mem_singleton.1 hv).symm e
    · have hq := h.inq _ hxa (by omega)
      obtain ⟨k1, k2⟩ := hr _ hq
      exact ⟨st, mFace_same hfr hz (by rw [k1, g1]) (by rw [k2, g2]), hr⟩
theorem mTo_go {a b : Glu} (ha : okG a = true) (hb : okG b = true) {t0 u0 i s : Nat} {st : MSt} {τ : Nat → Nat} {π : Nat → P4} (hm : Mt a b t0 u0 τ π) (h : MJ a b t0 (4 * i) st) (hr : ∀ v ∈ st.q, st.to.getD v 0 = τ v ∧ pAt st.by' v = π v) (hs : st.q[i]? = some s) : ∀ f, f ≤ 4 →
    ∃ st', mTo a b s st f = some st' ∧ ∀ v ∈ st'.q, st'.to.getD v 0 = τ v ∧ pAt st'.by' v = π v
  | 0, _ => ⟨st, rfl, hr⟩
  | f + 1, hf => by
    obtain ⟨s1, h1, r1⟩ := mTo_go ha hb hm h hr hs f (by omega)
    obtain ⟨k1, k2⟩ := mTo_J ha hb h hs f (by omega) h1
    obtain ⟨s2, h2, r2⟩ := mFace_go ha hb hm k1 r1 k2 (by omega)
    exact ⟨s2, by rw [mTo, h1]; exact h2, r2⟩
theorem mBfs_go {a b : Glu} (ha : okG a = true) (hb : okG b = true) {t0 u0 : Nat} {τ : Nat → Nat} {π : Nat → P4} (hm : Mt a b t0 u0 τ π) : ∀ (k i : Nat) {st : MSt}, MJ a b t0 (4 * i) st → (∀ v ∈ st.q, st.to.getD v 0 = τ v ∧ pAt st.by' v = π v) → ∃ st', mBfs a b k i st = some st'
  | 0, i, st, _, _ => ⟨st, rfl⟩
  | k + 1, i, st, h, hr => by
    by_cases hi : i < st.q.length
    · have hs := getD_nat hi
      obtain ⟨s1, h1, r1⟩ := mTo_go ha hb hm h hr hs 4 (Nat.le_refl 4)
      obtain ⟨s2, h2⟩ := mBfs_go ha hb hm k (i + 1) (mTo_J ha hb h hs 4 (Nat.le_refl 4) h1).1 r1
      exact ⟨s2, by rw [mBfs_step hs, h1]; exact h2⟩
    · exact ⟨st, mBfs_done hi⟩
theorem iso_match {a b : Glu} (ha : okG a = true) (hb : okG b = true) {t u : Nat} {τ : Nat → Nat} {π : Nat → P4} (ht : t < a.length) (hm : Mt a b t u τ π) : matchG a b t u (π t) = true := by
  have hr := hm.rng t (.refl _)
  rw [hm.root] at hr
  obtain ⟨st, h⟩ := mBfs_go ha hb hm a.length 0 (MJ.start ht hr.1 hr.2) (fun v hv => by
    obtain rfl := List.mem_singleton.1 hv
    show ((List.replicate a.length (-1 : Int)).set v u).getD v 0 = _ ∧ pAt ((List.replicate a.length zP).set v (π v)) v = _
    rw [getD_set_self' (by simpa using ht), pAt_set_self (by simpa using ht), hm.root]
    exact ⟨rfl, rfl⟩)
  rw [matchG, h]; rfl
end Go.V
/- Parts are matched one after the other. -/
namespace Go.V
open Go
/-- The number of a tetrahedron's part. -/
def lb (g : Glu) (t : Nat) : Nat := ((partsOf g).getD t 0).toNat
def pn (g : Glu) : Nat := (partsN g).toNat
theorem lb_lt {g : Glu} (hg : okG g = true) {t : Nat} (ht : t < g.length) : lb g t < pn g := by
  have := parts_rng hg ht; rw [lb, pn]; omega
theorem lb_iff {g : Glu} (hg : okG g = true) {t u : Nat} (ht : t < g.length) (hu : u < g.length) : lb g t = lb g u ↔ Cn g t u := by
  rw [← parts_iff hg ht hu]
  have := parts_rng hg ht; have := parts_rng hg hu
  rw [lb, lb]; omega
theorem lb_val {g : Glu} (hg : okG g = true) {t : Nat} (ht : t < g.length) : (partsOf g).getD t 0 = (lb g t : Int) := by
  have := parts_rng hg ht; rw [lb]; omega
theorem lb_onto {g : Glu} (hg : okG g = true) {i : Nat} (hi : i < pn g) : ∃ t, t < g.length ∧ lb g t = i := by
  obtain ⟨v, hv, e⟩ := (parts_A hg).onto i (by omega) (by show (i : Int) < partsN g; rw [pn] at hi; omega)
  have e : (partsOf g).getD v 0 = (i : Int) := e
  exact ⟨v, hv, by rw [lb, e]; simp⟩
theorem partsN_le' {g : Glu} (hg : okG g = true) : partsN g ≤ g.length := (pAll_ok hg g.length (Nat.le_refl _)).2.2
/-- Part i of a and part r of b are equal but for a renumbering. -/
def IsoP (a b : Glu) (i r : Nat) : Prop := ∃ t u, t < a.length ∧ u < b.length ∧ lb a t = i ∧ lb b u = r ∧ Iso a b t u
theorem IsoP.at {a b : Glu} (ha : okG a = true) (hb : okG b = true) {i r t : Nat} (h : IsoP a b i r) (ht : t < a.length) (hi : lb a t = i) : ∃ u, u < b.length ∧ lb b u = r ∧ Iso a b t u := by
  obtain ⟨t0, u0, ht0, hu0, e1, e2, τ, π, hm⟩ := h
  have hc : Cn a t0 t := (lb_iff ha ht0 ht).1 (by rw [e1, hi])
  have hu := (hm.rng t hc).1
  refine ⟨τ t, hu, ?_, τ, π, hm.reroot hc⟩
  rw [← e2]; exact ((lb_iff hb hu0 hu).2 (hm.image hc)).symm
/-- From j to r, from i to r, from i to s: so from j to s. -/
theorem IsoP.swap {a b : Glu} (ha : okG a = true) (hb : okG b = true) {i j r s : Nat} (h1 : IsoP a b j r) (h2 : IsoP a b i r) (h3 : IsoP a b i s) : IsoP a b j s := by
  obtain ⟨tj, u, htj, hu, ej, er, k1⟩ := h1
  obtain ⟨ti, ui, hti, hui, ei, er2, k2⟩ := h2
  have k2' := Iso.symm ha hb hti hui k2
  obtain ⟨τ, π, hm⟩ := k2'
  have hc : Cn b ui u := (lb_iff hb hui hu).1 (by rw [er, er2])
  have hτ := (hm.rng u hc).1
  have k3 : Iso b a u (τ u) := ⟨τ, π, hm.reroot hc⟩
  have hl : lb a (τ u) = i := by rw [← ei]; exact ((lb_iff ha hti hτ).2 (hm.image hc)).symm
  obtain ⟨w, hw, ew, k4⟩ := h3.at ha hb hτ hl
  exact ⟨tj, w, htj, hw, ej, ew, Iso.trans ha ha htj hτ (Iso.trans ha hb htj hu k1 k3) k4⟩
/-- A matching of all parts. -/
structure PB (a b : Glu) (σ ρ : Nat → Nat) : Prop where
  s1 : ∀ i, i < pn a → σ i < pn b ∧ ρ (σ i) = i
  s2 : ∀ r, r < pn b → ρ r < pn a ∧ σ (ρ r) = r
  iso : ∀ i, i < pn a → IsoP a b i (σ i)
def upd (f : Nat → Nat) (i v : Nat) : Nat → Nat := fun k => if k = i then v else f k
/-- It may be changed so that i is matched with r. -/
theorem PB.change {a b : Glu} (ha : okG a = true) (hb : okG b = true) {σ ρ : Nat → Nat} (h : PB a b σ ρ) {i r : Nat} (hi : i < pn a) (hr : r < pn b) (hir : IsoP a b i r) :
    PB a b (upd (upd σ (ρ r) (σ i)) i r) (upd (upd ρ (σ i) (ρ r)) r i) := by
  have hj := h.s2 r hr
  have hs := h.s1 i hi
  by_cases e : ρ r = i
  · have e2 : σ i = r := by rw [← e]; exact hj.2
    refine ⟨fun k hk => ?_, fun k hk => ?_, fun k hk => ?_⟩
    · by_cases e3 : k = i
      · subst e3; simp [upd, hr]
      · have := h.s1 k hk
        have e4 : σ k ≠ r := fun e5 => e3 (by rw [← this.2, e5, e])
        simp only [upd, e3, e, if_false, e2, e4]
        exact this
    · by_cases e3 : k = r
      · subst e3; simp [upd, hi]
      · have := h.s2 k hk
        have e4 : ρ k ≠ i := fun e5 => e3 (by rw [← this.2, e5, e2])
        simp only [upd, e3, e2, if_false, e, e4]
        exact this
    · by_cases e3 : k = i
      · subst e3; simpa [upd] using hir
      · simp only [upd, e3, if_false, e]; exact h.iso k hk
  · have e2 : σ i ≠ r := fun e3 => e (by rw [← e3]; exact hs.2)
    refine ⟨fun k hk => ?_, fun k hk => ?_, fun k hk => ?_⟩
    · by_cases e3 : k = i
      · subst e3; simp [upd, hr]
      · by_cases e4 : k = ρ r
        · subst e4; simp [upd, e3, e2, hs.1]
        · have := h.s1 k hk
          have e5 : σ k ≠ r := fun e6 => e4 (by rw [← e6, this.2])
          have e6 : σ k ≠ σ i := fun e6 => e3 (by rw [← this.2, e6, hs.2])
          simp only [upd, e3, e4, if_false, e5, e6]
          exact this
    · by_cases e3 : k = r
      · subst e3; simp [upd, hi]
      · by_cases e4 : k = σ i
        · subst e4; simp [upd, e3, e, hj.1]
        · have := h.s2 k hk
          have e5 : ρ k ≠ i := fun e6 => e4 (by rw [← e6, this.2])
          have e6 : ρ k ≠ ρ r := fun e6 => e3 (by rw [← this.2, e6, hj.2])
          simp only [upd, e3, e4, if_false, e5, e6]
          exact this
    · by_cases e3 : k = i
      · subst e3; simpa [upd] using hir
      · by_cases e4 : k = ρ r
        · subst e4
          simp only [upd, e3, if_false, if_true]
          have k := h.iso (ρ r) hj.1
          rw [hj.2] at k
          exact IsoP.swap ha hb k hir (h.iso i hi)
        · simp only [upd, e3, e4, if_false]; exact h.iso k hk
def anyP (np : Nat → P4) (a b : Glu) (t u : Nat) : Nat → Bool
  | 0 => false
  | k + 1 => anyP np a b t u k || matchG a b t u (np k)
/-- The first tetrahedron from i on of a free part that matches. -/
def findU (np : Nat → P4) (a b : Glu) (m : List Int) (used : List Bool) (t : Nat) : Nat → Nat → Option Nat
  | 0, _ => none
  | k + 1, i => if used.getD (m.getD i 0).toNat false = false ∧ anyP np a b t i 24 = true then some i else findU np a b m used t k (i + 1)
def seenB (l : List Int) (t : Nat) : Nat → Bool
  | 0 => false
  | k + 1 => seenB l t k || decide (l.getD k 0 = l.getD t 0)
def rnStep (np : Nat → P4) (a b : Glu) (l m : List Int) (t : Nat) (used : List Bool) : Option (List Bool) :=
  if seenB l t t = true then some used else (findU np a b m used t m.length 0).map fun u => used.set (m.getD u 0).toNat true
def rnT (np : Nat → P4) (a b : Glu) (l m : List Int) : Nat → Option (List Bool)
  | 0 => some (List.replicate m.length false)
  | t + 1 => (rnT np a b l m t).bind (rnStep np a b l m t)
theorem anyP_iff {np : Nat → P4} {a b : Glu} {t u : Nat} : ∀ k, anyP np a b t u k = true ↔ ∃ j, j < k ∧ matchG a b t u (np j) = true
  | 0 => by simp [anyP]
  | k + 1 => by
    rw [anyP, Bool.or_eq_true, anyP_iff k]
    constructor
    · rintro (⟨j, hj, h⟩ | h)
      · exact ⟨j, by omega, h⟩
      · exact ⟨k, by omega, h⟩
    · rintro ⟨j, hj, h⟩
      rcases Nat.lt_or_ge j k with h1 | h1
      · exact .inl ⟨j, h1, h⟩
      · obtain rfl : j = k := by omega
        exact .inr h
theorem seenB_iff {l : List Int} {t : Nat} : ∀ k, seenB l t k = true ↔ ∃ j, j < k ∧ l.getD j 0 = l.getD t 0
  | 0 => by simp [seenB]
  | k + 1 => by
    rw [seenB, Bool.or_eq_true, seenB_iff k, decide_eq_true_eq]
    constructor
    · rintro (⟨j, hj, h⟩ | h)
      · exact ⟨j, by omega, h⟩
      · exact ⟨k, by omega, h⟩
    · rintro ⟨j, hj, h⟩
      rcases Nat.lt_or_ge j k with h1 | h1
      · exact .inl ⟨j, h1, h⟩
      · obtain rfl : j = k := by omega
        exact .inr h
theorem findU_some {np : Nat → P4} {a b : Glu} {m : List Int} {used : List Bool} {t : Nat} : ∀ (k i : Nat) {u}, findU np a b m used t k i = some u → i ≤ u ∧ u < i + k ∧ used.getD (m.getD u 0).toNat false = false ∧ anyP np a b t u 24 = true
  | 0, _, _, h => by cases h
  | k + 1, i, u, h => by
    rw [findU] at h
    split at h
    · rename_i hc; cases h; exact ⟨by omega, by omega, hc.1, hc.2⟩
    · have := findU_some k (i + 1) h; exact ⟨by omega, by omega, this.2.2⟩
theorem findU_go {np : Nat → P4} {a b : Glu} {m : List Int} {used : List Bool} {t u : Nat} (h1 : used.getD (m.getD u 0).toNat false = false) (h2 : anyP np a b t u 24 = true) : ∀ (k i : Nat), i ≤ u → u < i + k → ∃ v, findU np a b m used t k i = some v
  | 0, _, h, h' => by omega
  | k + 1, i, h, h' => by
    rw [findU]
    split
    · exact ⟨i, rfl⟩
    · rename_i hc
      have : i ≠ u := fun e => hc ⟨e ▸ h1, e ▸ h2⟩
      exact findU_go h1 h2 k (i + 1) (by omega) (by omega)
/-- The numbering meets each permutation. -/
structure AllP (np : Nat → P4) : Prop where
  ok : ∀ k, k < 24 → okP (np k) = true
  all : ∀ p, okP p = true → ∃ k, k < 24 ∧ np k = p
theorem rnT_go {np : Nat → P4} (hN : AllP np) {a b : Glu} (ha : okG a = true) (hb : okG b = true) (hlen : b.length ≤ a.length) {σ0 ρ0 : Nat → Nat} (h0 : PB a b σ0 ρ0) : ∀ t, t ≤ a.length →
    ∃ used σ ρ, rnT np a b (partsOf a) (partsOf b) t = some used ∧ used.length = b.length ∧ PB a b σ ρ ∧ ∀ r, r < pn b → (used.getD r false = true ↔ ∃ k, k < t ∧ σ (lb a k) = r)
  | 0, _ => ⟨List.replicate (partsOf b).length false, σ0, ρ0, rfl, by simp [parts_len hb], h0, fun r hr => by
    constructor
    · intro h
      by_cases hx : r < (partsOf b).length <;> simp [List.getD_eq_getElem?_getD, hx] at h
    · rintro ⟨k, hk, _⟩; omega⟩
  | t + 1, ht => by
    obtain ⟨used, σ, ρ, he, hul, hPB, hu⟩ := rnT_go hN ha hb hlen h0 t (by omega)
    have htN : t < a.length := by omega
    rw [rnT, he]
    show ∃ used' σ ρ, rnStep np a b (partsOf a) (partsOf b) t used = some used' ∧ _
    rw [rnStep]
    by_cases hseen : seenB (partsOf a) t t = true
    · rw [if_pos hseen]
      obtain ⟨j, hj, e⟩ := (seenB_iff t).1 hseen
      have hlj : lb a j = lb a t := by rw [lb, lb, e]
      refine ⟨used, σ, ρ, rfl, hul, hPB, fun r hr => (hu r hr).trans ⟨fun ⟨k, hk, e⟩ => ⟨k, by omega, e⟩, fun ⟨k, hk, e2⟩ => ?_⟩⟩
      rcases Nat.lt_or_ge k t with h1 | h1
      · exact ⟨k, h1, e2⟩
      · obtain rfl : k = t := by omega
        exact ⟨j, hj, by rw [hlj]; exact e2⟩
    · rw [if_neg hseen]
      have hnew : ∀ k, k < t → lb a k ≠ lb a t := fun k hk e => hseen ((seenB_iff t).2 ⟨k, hk, by rw [lb_val ha (by omega), lb_val ha htN, e]⟩)
      have hi := lb_lt ha htN
      have hσ := hPB.s1 _ hi
      -- the part that the matching names is free
      have hfree : used.getD (σ (lb a t)) false = false := by
        cases h : used.getD (σ (lb a t)) false
        · rfl
        · exfalso
          obtain ⟨k, hk, e⟩ := (hu _ hσ.1).1 h
          have hk2 := hPB.s1 _ (lb_lt ha (t := k) (by omega))
          exact hnew k hk (by rw [← hk2.2, e, hσ.2])
      obtain ⟨u, huB, eu, τ, π, hm⟩ := (hPB.iso _ hi).at ha hb htN rfl
      have hmt := iso_match ha hb htN hm
      obtain ⟨k, hk, ek⟩ := hN.all _ (hm.rng t (.refl _)).2
      obtain ⟨v, hv⟩ := findU_go (np := np) (a := a) (b := b) (m := partsOf b) (used := used) (t := t) (u := u)
        (by rw [lb_val hb huB, eu]; simpa using hfree) ((anyP_iff 24).2 ⟨k, hk, by rw [ek]; exact hmt⟩) (partsOf b).length 0 (by omega) (by rw [parts_len hb]; omega)
      rw [hv]
      obtain ⟨_, hvl, hvf, hva⟩ := findU_some _ _ hv
      have hvB : v < b.length := by rw [parts_len hb] at hvl; omega
      have hrB := lb_lt hb hvB
      obtain ⟨k', hk', hmk⟩ := (anyP_iff 24).1 hva
      have hiso : IsoP a b (lb a t) (lb b v) := ⟨t, v, htN, hvB, rfl, rfl, match_iso ha hb htN hvB (hN.ok k' hk') hmk⟩
      rw [lb_val hb hvB, Int.toNat_natCast] at hvf
      have hch := hPB.change ha hb hi hrB hiso
      have hpnb : pn b ≤ b.length := by have := partsN_le' hb; rw [pn]; omega
      refine ⟨used.set ((partsOf b).getD v 0).toNat true, _, _, rfl, by simp [hul], hch, fun r hr => ?_⟩
      rw [lb_val hb hvB, Int.toNat_natCast]
      -- old parts keep their match
      have hkeep : ∀ k, k < t → upd (upd σ (ρ (lb b v)) (σ (lb a t))) (lb a t) (lb b v) (lb a k) = σ (lb a k) := fun k hk => by
        have h1 := hnew k hk
        have h2 : lb a k ≠ ρ (lb b v) := fun e => by
          have := (hu _ hrB).2 ⟨k, hk, by rw [e]; exact (hPB.s2 _ hrB).2⟩
          rw [hvf] at this; cases this
        simp [upd, h1, h2]
      have hself : upd (upd σ (ρ (lb b v)) (σ (lb a t))) (lb a t) (lb b v) (lb a t) = lb b v := by simp [upd]
      by_cases e : lb b v = r
      · subst e
        rw [getB_set_self (by rw [hul]; omega)]
        exact ⟨fun _ => ⟨t, by omega, hself⟩, fun _ => rfl⟩
      · rw [getB_set_ne e, hu r hr]
        constructor
        · rintro ⟨k, hk, e2⟩
          exact ⟨k, by omega, by rw [hkeep k hk]; exact e2⟩
        · rintro ⟨k, hk, e2⟩
          rcases Nat.lt_or_ge k t with h1 | h1
          · exact ⟨k, h1, by rw [hkeep k h1] at e2; exact e2⟩
          · obtain rfl : k = t := by omega
            rw [hself] at e2; exact absurd e2 e
end Go.V
/- The permutations in their order. -/
namespace Go.V
open Go
def szO : Nat → Nat
  | 0 => 6
  | 1 => 2
  | _ => 1
def fac3 (k : Nat) : Nat := if k ≤ 1 then 1 else if k = 2 then 2 else 6
def nthJ (n i : Nat) : Nat := n / szO i % (4 - i)
def nthL (n : Nat) : Nat → List Int
  | 0 => [0, 1, 2, 3]
  | i + 1 => (nthL n i).take (nthJ n i) ++ (nthL n i).drop (nthJ n i + 1)
def nthV (n i : Nat) : Int := (nthL n i).getD (nthJ n i) 0
def nthP (n : Nat) : P4 := ⟨nthV n 0, nthV n 1, nthV n 2, nthV n 3⟩
theorem nthJ_lt (n : Nat) {i : Nat} (hi : i < 4) : nthJ n i < 4 - i := Nat.mod_lt _ (by omega)
theorem nthL_len (n : Nat) : ∀ i, i ≤ 4 → (nthL n i).length = 4 - i
  | 0, _ => rfl
  | i + 1, hi => by
    have h1 := nthL_len n i (by omega)
    have h2 := nthJ_lt n (i := i) (by omega)
    rw [nthL, List.length_append, List.length_take, List.length_drop, h1]; omega
theorem nthP_at (n : Nat) {i : Nat} (hi : i < 4) : (nthP n).at i = nthV n i := by
  match i, hi with
  | 0, _ => rfl
  | 1, _ => rfl
  | 2, _ => rfl
  | 3, _ => rfl
theorem nth_all : AllP nthP := by
  refine ⟨fun k hk => ?_, fun p hp => ?_⟩
  · have : (List.range 24).all (fun k => okP (nthP k)) = true := by decide +kernel
    exact List.all_eq_true.1 this k (List.mem_range.2 hk)
  · have h := all24 (Q := fun p => (List.range 24).any fun k => decide (nthP k = p)) (by decide +kernel) hp
    obtain ⟨k, hk, e⟩ := List.any_eq_true.1 h
    exact ⟨k, List.mem_range.1 hk, of_decide_eq_true e⟩
theorem fac3_sz {i k : Nat} (hi : i < 4) (h2 : 2 ≤ k) (h4 : k ≤ 2 ∨ k ≤ 4 - i) (h : ¬ (k : Int) ≤ 3 - i) : fac3 (k - 1) = szO i := by
  match i, hi with
  | 0, _ => obtain rfl : k = 4 := by omega
            rfl
  | 1, _ => obtain rfl : k = 3 := by omega
            rfl
  | 2, _ => obtain rfl : k = 2 := by omega
            rfl
  | 3, _ => obtain rfl : k = 2 := by omega
            rfl
theorem nthJ_int {n i k : Nat} (hi : i < 4) (e : fac3 (k - 1) = szO i) : ((n : Int) / (fac3 (k - 1) : Int)) % (4 - (i : Int)) = (nthJ n i : Int) := by
  rw [e, nthJ, show (4 : Int) - i = ((4 - i : Nat) : Int) by omega]
  simp
end Go.V
/- The reference: permutations by number, matches of parts. -/
namespace Go.Proofs
open Go Go.V
set_option maxRecDepth 20000
theorem own_open1 {w : World} {e k n : Nat} {v : Value} {xs : List Value} (h : w.ownsRow 0 e k v n xs) (hn : 0 < n) : ∃ g c, v = .slice (some ⟨g, 0, none⟩) n c ∧ n ≤ c := by
  rcases h.2 with ⟨_, h2⟩ | ⟨g, cap, cur, hv, hg, hb, h1, h2, _⟩
  · omega
  · exact ⟨g, cap, hv, h1⟩
theorem ints_take (xs : List Int) (j : Nat) : ints (xs.take j) = (ints xs).take j := by simp [ints, List.map_take]
theorem ints_drop (xs : List Int) (j : Nat) : ints (xs.drop j) = (ints xs).drop j := by simp [ints, List.map_drop]
theorem cells_take {w : World} {A : Addr} {xs : List Int} (h : Cells w A (ints xs)) (j : Nat) : Cells w A (ints (xs.take j)) := fun i v hi => by
  rw [ints_take, List.getElem?_take] at hi
  split at hi
  · exact h i v hi
  · cases hi
theorem cells_drop {w : World} {A : Addr} {xs : List Int} (h : Cells w A (ints xs)) (j : Nat) : Cells w (A.add (j * 1)) (ints (xs.drop j)) := fun i v hi => by
  rw [ints_drop, List.getElem?_drop] at hi
  rw [add_add, Nat.mul_one]; exact h _ v hi
theorem ints_append (xs ys : List Int) : ints xs ++ ints ys = ints (xs ++ ys) := by simp [ints]

theorem rf_Nth (n : Nat) (w : World) (hn : n < 24) : Gives Tryz.prog 69 #[iv (n : Int)] w Nil (fun _ : Unit => True) (fun _ => p4V (nthP n)) (fun _ => []) := by
  refine fn_of_run (S := Nil) (args := [iv (n : Int)]) (n := 46) (L := []) Tryz.func69 rfl Tryz.ntmps69 (Nat.le_of_ble_eq_true rfl) (Sym.nil _ _) ?_
  change RunC _ _ _ [(0, _)] _
  refine RunC.seq ?_
  refine RunC.region ?_
  refine RunL.grows rfl rfl rfl (Grows.alloc rfl Tryz.zeroValue32) (fun b2 _ => ?_)
  refine RunL.nil ?_
  refine Ends.then ?_
  refine RunC.seq ?_
  refine RunC.region ?_
  refine RunL.grows rfl rfl rfl (Grows.buildSlice (vs := #[(0, _), (1, _), (2, _), (3, _)]) (cells := #[iv 0, iv 1, iv 2, iv 3]) rfl rfl Tryz.underlying36 Tryz.sizeOf3 Tryz.zeroValue3 (by decide) (by kernel_rfl)) (fun b9 _ => ?_)
  refine RunL.conv (fun _ hs => Sym.obj_own (k := 1) (n := 4) hs rfl (by omega)) ?_
  refine RunL.still rfl rfl rfl (Still.assign rfl rfl) ?_
  refine RunL.nil ?_
  refine Ends.then ?_
  refine RunC.seq ?_
  refine RunC.region ?_
  refine RunL.grows rfl rfl rfl (Grows.alloc rfl Tryz.zeroValue32) (fun b4 _ => ?_)
  refine RunL.nil ?_
  refine Ends.then ?_
  refine RunC.seq ?_
  refine RunC.seq ?_
  refine RunC.region ?_
  refine RunL.still rfl rfl rfl (Still.assign rfl rfl) ?_
  refine RunL.nil ?_
  refine Ends.then ?_
  refine RunC.block ?_
  refine RunC.loop2 (γ := Value × Nat) (keep := [(0, _), (2, _), (4, _)]) (hkeep := [_]) (fun (v, i) => i ≤ 4) (fun (v, i) => 4 - i) (fun (v, i) => [(3, v), (5, iv i)]) (fun (v, i) => [HL.own 3 1 v (4 - i) (ints (nthL n i)), HL.obj b4 (.cells (cTo (nthP n) i) 32 (0, 0))]) (.slice (some ⟨b9, 0, none⟩) 4 4, 0) (by omega) (Fr.Sub.cons rfl (Fr.Sub.cons rfl (Fr.Sub.nil _))) (Fr.Sub.cons rfl (Fr.Sub.cons rfl (Fr.Sub.cons rfl (Fr.Sub.nil _)))) (HSub.pick 1 rfl (HSub.pick 0 rfl (HSub.pick 0 rfl (HSub.nil _)))) ?_
  rintro ⟨v, i⟩ hi
  have hi : i ≤ 4 := hi
  refine RunC.seq ?_
  refine RunC.seq ?_
  refine RunC.region ?_
  refine RunL.still rfl rfl rfl (Still.move rfl rfl) ?_
  refine RunL.still rfl rfl rfl (Still.lss rfl rfl rfl) ?_
  refine RunL.nil ?_
  refine Ends.then ?_
  refine RunC.cond rfl (fun h11 => ?_) (fun h11 => ?_)
  · have h11 := of_decide_eq_true h11
    have hi4 : i < 4 := by omega
    have hll := nthL_len n i hi
    have hjl := nthJ_lt n hi4
    refine RunC.skip ?_
    refine Ends.then ?_
    refine RunC.seq ?_
    refine RunC.block ?_
    refine RunC.seq ?_
    refine RunC.region ?_
    refine RunL.still rfl rfl rfl (Still.assign rfl rfl) ?_
    refine RunL.nil ?_
    refine Ends.then ?_
    refine RunC.seq ?_
    refine RunC.seq ?_
    refine RunC.region ?_
    refine RunL.still rfl rfl rfl (Still.assign rfl rfl) ?_
    refine RunL.nil ?_
    refine Ends.then ?_
    refine RunC.block ?_
    refine RunC.loop2 (γ := Nat) (keep := [(0, _), (2, _), (3, _), (4, _), (5, _)]) (hkeep := [_, _, _]) (fun k => 2 ≤ k ∧ (k ≤ 2 ∨ k ≤ 4 - i)) (fun k => 5 - k) (fun k => [(6, iv (fac3 (k - 1) : Nat)), (7, iv k)]) (fun k => []) 2 ⟨by omega, .inl (by omega)⟩ (Fr.Sub.cons rfl (Fr.Sub.cons rfl (Fr.Sub.nil _))) (Fr.Sub.cons rfl (Fr.Sub.cons rfl (Fr.Sub.cons rfl (Fr.Sub.cons rfl (Fr.Sub.cons rfl (Fr.Sub.nil _)))))) (HSub.pick 0 rfl (HSub.pick 0 rfl (HSub.pick 0 rfl (HSub.nil _)))) ?_
    rintro k ⟨hk2, hk4⟩
    refine RunC.seq ?_
    refine RunC.seq ?_
    refine RunC.region ?_
    refine RunL.still rfl rfl rfl (Still.move rfl rfl) ?_
    refine RunL.still rfl rfl rfl (Still.move rfl rfl) ?_
    refine RunL.still rfl rfl rfl (Still.sub rfl rfl rfl (fits64 (by omega) (by omega))) ?_
    refine RunL.still rfl rfl rfl (Still.leq rfl rfl rfl) ?_
    refine RunL.nil ?_
    refine Ends.then ?_
    refine RunC.cond rfl (fun h17 => ?_) (fun h17 => ?_)
    · have h17 := of_decide_eq_true h17
      have hk23 : k = 2 ∨ k = 3 := by omega
      refine RunC.skip ?_
      refine Ends.then ?_
      refine RunC.seq ?_
      refine RunC.block ?_
      refine RunC.region ?_
      refine RunL.still rfl rfl rfl (Still.move rfl rfl) ?_
      refine RunL.still rfl rfl rfl (Still.move rfl rfl) ?_
      refine RunL.still rfl rfl rfl (Still.mul rfl rfl rfl (fits64 (by rcases hk23 with rfl | rfl <;> decide) (by rcases hk23 with rfl | rfl <;> decide))) ?_
      refine RunL.still rfl rfl rfl (Still.assign rfl rfl) ?_
      refine RunL.nil ?_
      refine Ends.block ?_
      refine Ends.then ?_
      refine RunC.region ?_
      refine RunL.still rfl rfl rfl (Still.move rfl rfl) ?_
      refine RunL.still rfl rfl rfl (Still.add rfl rfl rfl (fits64 (by omega) (by omega))) ?_
      refine RunL.still rfl rfl rfl (Still.assign rfl rfl) ?_
      refine RunL.nil ?_
      refine Ends.again (k + 1) ?_ ?_ (Fr.Sub.app ?_ ?_) ?_
      · exact ⟨by omega, .inr (by omega)⟩
      · show _ < _; omega
      · exact Fr.Sub.cons (congrArg (fun z : Int => some (Value.int .i64 z)) (by rcases hk23 with rfl | rfl <;> rfl)) (Fr.Sub.cons rfl (Fr.Sub.nil _))
      · exact Fr.Sub.cons rfl (Fr.Sub.cons rfl (Fr.Sub.cons rfl (Fr.Sub.cons rfl (Fr.Sub.cons rfl (Fr.Sub.nil _)))))
      · exact HSub.pick 0 rfl (HSub.pick 0 rfl (HSub.pick 0 rfl (HSub.nil _)))
    · have h17 := of_decide_eq_false h17
      have hfs := fac3_sz hi4 hk2 hk4 h17
      have hj := nthJ_int (n := n) hi4 hfs
      have hpos : 0 < fac3 (k - 1) := by rw [fac3]; split; omega; split <;> omega
      refine RunC.exit ?_
      refine Ends.then_exit ?_
      refine Ends.then_exit ?_
      refine Ends.block_exit ?_
      refine Ends.then ?_
      refine RunC.seq ?_
      refine RunC.region ?_
      refine RunL.still rfl rfl rfl (Still.move rfl rfl) ?_
      refine RunL.still rfl rfl rfl (Still.move rfl rfl) ?_
      refine RunL.still rfl rfl rfl (Still.quoP rfl rfl rfl (by omega) (by omega) (fits64 (by have h := Int.ediv_nonneg (a := (n : Int)) (b := (fac3 (k - 1) : Int)) (by omega) (by omega); omega) (by have h := Int.ediv_le_self (a := (n : Int)) (fac3 (k - 1) : Int) (by omega); omega))) ?_
      refine RunL.still rfl rfl rfl (Still.move rfl rfl) ?_
      refine RunL.still rfl rfl rfl (Still.sub rfl rfl rfl (fits64 (by omega) (by omega))) ?_
      refine RunL.still rfl rfl rfl (Still.remP rfl rfl rfl (by exact Int.ediv_nonneg (by omega) (by omega)) (by omega)) ?_
      refine RunL.again (t := 28) (u := iv (nthJ n i : Nat)) rfl (congrArg (Value.int .i64) hj) ?_
      refine RunL.still rfl rfl rfl (Still.assign rfl rfl) ?_
      refine RunL.nil ?_
      refine Ends.then ?_
      refine RunC.seq ?_
      refine RunC.region ?_
      refine RunL.still rfl rfl rfl (Still.move rfl rfl) ?_
      refine RunL.still rfl rfl rfl (Still.move rfl rfl) ?_
      refine RunL.still rfl rfl rfl (Still.move rfl rfl) ?_
      refine RunL.still rfl rfl rfl (Still.indexOwnI (m := (nthJ n i)) rfl rfl rfl Tryz.underlying36 Tryz.sizeOf3 (fun _ hs => hs.own (i := 0) rfl) (rfl) (by omega)) ?_
      refine RunL.still rfl rfl rfl (Still.load rfl rfl Tryz.isAgg3 (fun w hs => own_at (hs.own (i := 0) rfl) (ints_get (getD_get' (by omega))))) ?_
      refine RunL.still rfl rfl rfl (Still.indexArrNL rfl rfl rfl Tryz.underlying32 Tryz.sizeOf3 (by omega)) ?_
      refine RunL.does0 rfl rfl (Does.store1 rfl rfl rfl (i := 1) rfl Tryz.sizeOf3 rfl (Nat.ble_eq_true_of_le (show 0 + i * 1 + 1 ≤ 4 by omega))) (fun _ _ => ?_)
      refine RunL.conv (fun _ hs => hs.re 1 rfl (show _ = HL.obj b4 (.cells (cTo (nthP n) (i + 1)) 32 (0, 0)) from congrArg (fun z => HL.obj b4 (.cells z 32 (0, 0))) (cTo_set hi4 (nthP_at n hi4)))) ?_
      refine RunL.nil ?_
      refine Ends.then ?_
      refine RunC.know (fun _ hs => own_open1 (hs.own (i := 0) rfl) (by omega)) (fun hop => ?_)
      obtain ⟨lg, lc, hvv, hlc⟩ := hop
      subst hvv
      refine RunC.drawY (.pure 1 (.pure 2 (.pure 3 (.pure 5 (.pure 6 (.pure 7 (.pure 8 (.one 0 (.one 4 (.one 9 (.pure 10 .done))))))))))) (by kernel_rfl) (by kernel_rfl) ?_
      refine RunY.pure rfl rfl rfl rfl (fun _ => Still.move rfl rfl) ?_
      refine RunY.pure rfl rfl rfl rfl (fun _ => Still.move rfl rfl) ?_
      refine RunY.pure rfl rfl rfl rfl (fun _ => Still.sliceTo rfl rfl rfl Tryz.underlying36 Tryz.sizeOf3 (by omega)) ?_
      refine RunY.pure rfl rfl rfl rfl (fun _ => Still.move rfl rfl) ?_
      refine RunY.pure rfl rfl rfl rfl (fun _ => Still.move rfl rfl) ?_
      refine RunY.pure rfl rfl rfl rfl (fun _ => Still.add rfl rfl rfl (fits64 (by omega) (by omega))) ?_
      refine RunY.pure rfl rfl rfl rfl (fun _ => Still.sliceFrom (nthJ n i + 1) rfl rfl rfl Tryz.underlying36 Tryz.sizeOf3 (by omega) (by omega)) ?_
      refine RunY.grows rfl rfl rfl rfl (Grows.empty rfl Tryz.underlying36 Tryz.sizeOf3 Tryz.zeroValue3) (fun b35 _ => ?_)
      refine RunY.does rfl rfl rfl rfl (Does.appendAny (n' := (nthJ n i)) (xs' := (ints ((nthL n i).take (nthJ n i)))) (news := (ints ((nthL n i).take (nthJ n i)))) rfl rfl rfl rfl (fun _ => rfl) (i := 0) rfl Tryz.underlying36 (by kernel_rfl : Tryz.prog.info? 3 = some Tryz.t3) (by kernel_rfl : (_ : Option _) = some (some (.int .i64 0), 1, 8)) rfl rfl (fun w hs => cells_take (own_all (hs.own (i := 1) rfl)) _) (by rw [length_ints, List.length_take]; omega) (ints_one _) (by omega) (by omega) (Nat.zero_add _) (rfl)) (fun v39 hv39 => ?_)
      refine RunY.does rfl rfl rfl rfl (Does.appendAny (n' := (4 - (i + 1))) (xs' := (ints (nthL n (i + 1)))) (news := (ints ((nthL n i).drop (nthJ n i + 1)))) rfl rfl rfl rfl (fun h0 => congrArg some (if_neg (by omega))) (i := 0) rfl Tryz.underlying36 (by kernel_rfl : Tryz.prog.info? 3 = some Tryz.t3) (by kernel_rfl : (_ : Option _) = some (some (.int .i64 0), 1, 8)) rfl rfl (fun w hs => cells_drop (own_all (hs.own (i := 1) rfl)) _) (by rw [length_ints, List.length_drop]; omega) (ints_one _) (by omega) (by omega) (by omega) (ints_append _ _)) (fun v44 hv44 => ?_)
      refine RunY.conv (fun _ hs => hs.sub (HSub.pick 0 rfl (HSub.pick 1 rfl (HSub.pick 1 rfl (HSub.nil _))))) ?_
      refine RunY.pure rfl rfl rfl rfl (fun _ => Still.assign rfl rfl) ?_
      refine RunY.done ?_
      refine Ends.block ?_
      refine Ends.then ?_
      refine RunC.region ?_
      refine RunL.still rfl rfl rfl (Still.move rfl rfl) ?_
      refine RunL.still rfl rfl rfl (Still.add rfl rfl rfl (fits64 (by omega) (by omega))) ?_
      refine RunL.still rfl rfl rfl (Still.assign rfl rfl) ?_
      refine RunL.nil ?_
      refine Ends.again (v44, i + 1) ?_ ?_ (Fr.Sub.app ?_ ?_) ?_
      · show i + 1 ≤ 4; omega
      · show 4 - (i + 1) < 4 - i; omega
      · exact Fr.Sub.cons rfl (Fr.Sub.cons rfl (Fr.Sub.nil _))
      · exact Fr.Sub.cons rfl (Fr.Sub.cons rfl (Fr.Sub.cons rfl (Fr.Sub.nil _)))
      · exact HSub.pick 0 rfl (HSub.pick 0 rfl (HSub.pick 0 rfl (HSub.nil _)))
  · have h11 := of_decide_eq_false h11
    obtain rfl : i = 4 := by omega
    refine RunC.exit ?_
    refine Ends.then_exit ?_
    refine Ends.then_exit ?_
    refine Ends.block_exit ?_
    refine Ends.then ?_
    refine RunC.seq ?_
    refine RunC.region ?_
    refine RunL.still rfl rfl rfl (Still.loads rfl rfl Tryz.isAgg32 Tryz.sizeOf32 (vs := [_, _, _, _]) rfl (fun _ hs => cells_nth (hs.at (i := 1) rfl) ⟨rfl, ⟨rfl, ⟨rfl, ⟨rfl, trivial⟩⟩⟩⟩)) ?_
    refine RunL.does0 rfl rfl (Does.store rfl rfl rfl (i := 2) rfl Tryz.sizeOf32 rfl (rfl) rfl) (fun _ _ => ?_)
    refine RunL.nil ?_
    refine Ends.then ?_
    refine RunC.ret ?_
    refine Ends.leave (.inl rfl) (fun _ _ ok => results1 Tryz.results69 (Holds.cell rfl (fun _ hs => load_cells (vs := [_, _, _, _]) Tryz.isAgg32 Tryz.sizeOf32 rfl (cells_nth (hs.at (i := 2) rfl) ⟨rfl, ⟨rfl, ⟨rfl, ⟨rfl, trivial⟩⟩⟩⟩))) ok) (fun w1 hs => ?_)
    exact Ret.intro () trivial rfl (HSub.nil _) hs

end Go.Proofs
