/- Twofold covers and doubles of gluings: contracts of both texts. -/
import Derived.Test.YtbnfcbmpgjmhmaaGreatDoorM4
import Derived.Test.YtbnfcbmpgjmhmaaGreatDoorM1
import Derived.Test.YtbnfcbmpgjmhmaaGreatDoorProg
import Derived.KernelRfl
import Derived.Test.YtbnfcbmpgjmhmaaGreatDoorM0
namespace Go.Proofs
open Go Go.V
set_option maxRecDepth 20000
theorem tw_lo {g : Glu} {t f : Nat} (hok : okG g = true) (ht : t < g.length) (hf : f < 4) (h : 0 ≤ (fAt g t f).tet ∧ sgnP (fAt g t f).p = 1) : twH g.length t f (fAt (uniG g g) t f) = ⟨(fAt g t f).tet + g.length, (fAt g t f).p⟩ := by
  have := okG_tet hok ht hf
  rw [uniG_lo ht, twH, if_pos h, Int.emod_eq_of_lt (by omega) (by omega)]
theorem tw_hi {g : Glu} {t f : Nat} (hok : okG g = true) (ht : t < g.length) (hf : f < 4) (h : 0 ≤ (fAt g t f).tet ∧ sgnP (fAt g t f).p = 1) : twH g.length (t + g.length) f (fAt (uniG g g) (t + g.length) f) = ⟨(fAt g t f).tet, (fAt g t f).p⟩ := by
  have := okG_tet hok ht hf
  have e : shF (g.length : Int) (fAt g t f) = ⟨(fAt g t f).tet + g.length, (fAt g t f).p⟩ := by rw [shF, if_pos h.1]
  rw [uniG_hi ht hf, e, twH, if_pos ⟨by show 0 ≤ _ + _; omega, h.2⟩]
  congr 1
  show ((fAt g t f).tet + g.length + g.length) % (2 * g.length) = _
  rw [show (fAt g t f).tet + (g.length : Int) + g.length = (fAt g t f).tet + 2 * g.length by omega, Int.add_emod_right, Int.emod_eq_of_lt (by omega) (by omega)]
theorem tw_no {g : Glu} {t f : Nat} (ht : t < g.length) (hf : f < 4) (h : ¬ (0 ≤ (fAt g t f).tet ∧ sgnP (fAt g t f).p = 1)) : twH g.length t f (fAt (uniG g g) t f) = fAt (uniG g g) t f ∧ twH g.length (t + g.length) f (fAt (uniG g g) (t + g.length) f) = fAt (uniG g g) (t + g.length) f := by
  constructor
  · rw [uniG_lo ht, twH, if_neg h]
  · rw [uniG_hi ht hf, shF]
    by_cases h0 : 0 ≤ (fAt g t f).tet
    · rw [if_pos h0, twH, if_neg (fun k => h ⟨h0, k.2⟩)]
    · rw [if_neg h0, twH, if_neg h]
theorem db_lo {g : Glu} {t f : Nat} (ht : t < g.length) (h : (fAt g t f).tet < 0) : dbH g.length t f (fAt (uniG g g) t f) = ⟨(t : Int) + g.length, idP⟩ := by
  rw [uniG_lo ht, dbH, if_pos h, Int.emod_eq_of_lt (by omega) (by omega)]
theorem db_hi {g : Glu} {t f : Nat} (ht : t < g.length) (hf : f < 4) (h : (fAt g t f).tet < 0) : dbH g.length (t + g.length) f (fAt (uniG g g) (t + g.length) f) = ⟨(t : Int), idP⟩ := by
  have e : shF (g.length : Int) (fAt g t f) = fAt g t f := by rw [shF, if_neg (by omega)]
  rw [uniG_hi ht hf, e, dbH, if_pos h]
  congr 1
  rw [show ((t + g.length : Nat) : Int) + g.length = t + 2 * g.length by omega, Int.add_emod_right, Int.emod_eq_of_lt (by omega) (by omega)]
theorem db_no {g : Glu} {t f : Nat} (ht : t < g.length) (hf : f < 4) (h : ¬ (fAt g t f).tet < 0) : dbH g.length t f (fAt (uniG g g) t f) = fAt (uniG g g) t f ∧ dbH g.length (t + g.length) f (fAt (uniG g g) (t + g.length) f) = fAt (uniG g g) (t + g.length) f := by
  constructor
  · rw [uniG_lo ht, dbH, if_neg h]
  · rw [uniG_hi ht hf, shF, if_pos (by omega), dbH, if_neg (by show ¬ _ + _ < _; omega)]

theorem gl_Twofold (base : Option Addr) (A : Addr) (cap : Nat) (g : Glu) (w : World) (hg : GluAt w base A g) (hok : okG g = true) (hn : 2 * g.length ≤ 1000) : Gives Tryz.prog 12 #[gluV base cap g] w Nil (fun q : Option Addr × Nat => OKB q (twoG g).length) (fun q => .tuple #[gluV q.1 q.2 (twoG g), iv 0]) (fun q => [ownG q (twoG g)]) := by
  have hlen := hg.len
  have hul : (uniG g g).length = 2 * g.length := by rw [uniG_len]; omega
  refine fn_of_runM (S := Nil) (args := [gluV base cap g]) (n := 62) (L := []) Tryz.func12 rfl Tryz.ntmps12 (Nat.le_of_ble_eq_true rfl) (Sym.nil _ _) ?_
  change RunC _ _ _ [(0, _)] _
  refine RunC.conv (fun _ hs => hs.marks_nil) ?_
  refine RunC.seq ?_
  refine RunC.region ?_
  refine RunL.grows rfl rfl rfl (Grows.box rfl rfl) (fun b1 _ => ?_)
  refine RunL.grows rfl rfl rfl (Grows.alloc rfl Tryz.zeroValue24) (fun b2 _ => ?_)
  refine RunL.still rfl rfl rfl (Still.assign rfl rfl) ?_
  refine RunL.nil ?_
  refine Ends.then ?_
  refine RunC.seq ?_
  refine RunC.region ?_
  refine RunL.still rfl rfl rfl (Still.loads rfl rfl Tryz.isAgg24 Tryz.sizeOf24 (vs := [_]) rfl (fun _ hs => cells_nth (hs.at (i := 1) rfl) ⟨rfl, trivial⟩)) ?_
  refine RunL.still rfl rfl rfl (Still.loads rfl rfl Tryz.isAgg24 Tryz.sizeOf24 (vs := [_]) rfl (fun _ hs => cells_nth (hs.at (i := 1) rfl) ⟨rfl, trivial⟩)) ?_
  refine RunL.grows rfl rfl rfl (Grows.call (vs := #[_, _]) rfl rfl Tryz.call22 (fun w hs => gl_Union_ok base A cap g base A cap g w (hg.sym hs) (hg.sym hs) hok hok (by omega))) (fun q hq => ?_)
  have hq : OKB q (uniG g g).length := hq
  have hq2 : OKB q (twoG g).length := by have := hq; rw [hul] at this; rw [twoG_len]; exact this
  refine RunL.conv (fun _ hs => hs.re 0 rfl (show _ = HL.own 35 20 (.slice q.1 (2 * g.length) q.2) (2 * g.length) ((uniG g g).flatMap encT) by rw [ownG, hul])) ?_
  refine RunL.still rfl rfl rfl (Still.move rfl rfl) ?_
  refine RunL.still rfl rfl rfl (Still.extractN rfl rfl rfl) ?_
  refine RunL.still rfl rfl rfl (Still.extractN rfl rfl rfl) ?_
  refine RunL.grows rfl rfl rfl (Grows.alloc rfl Tryz.zeroValue24) (fun b4 _ => ?_)
  refine RunL.does0 rfl rfl (Does.store rfl rfl rfl (i := 0) rfl Tryz.sizeOf24 rfl (rfl) rfl) (fun _ _ => ?_)
  refine RunL.conv (fun _ hs => hs.re 0 rfl (show _ = HL.obj b4 (.cells #[.slice q.1 (2 * g.length) q.2] 24 (0, 0)) from by simp only [gluV, hul]; rfl)) ?_
  refine RunL.still rfl rfl rfl (Still.assign rfl rfl) ?_
  refine RunL.nil ?_
  refine Ends.then ?_
  refine RunC.seq ?_
  refine RunC.seq ?_
  refine RunC.region ?_
  refine RunL.still rfl rfl rfl (Still.move rfl rfl) ?_
  refine RunL.still rfl rfl rfl (Still.neq rfl rfl rfl) ?_
  refine RunL.again (t := 16) (u := .bool false) rfl (rfl) ?_
  refine RunL.nil ?_
  refine Ends.then ?_
  refine RunC.cond_false rfl ?_
  refine RunC.skip ?_
  refine Ends.then ?_
  refine RunC.seq ?_
  refine RunC.region ?_
  refine RunL.still rfl rfl rfl (Still.fieldAddrL (off := 0) (off' := 0) rfl rfl Tryz.underlying24 rfl Tryz.sizeOf22 rfl) ?_
  refine RunL.still rfl rfl rfl (Still.load rfl rfl Tryz.isAgg22 (fun _ hs => cell_nth (hs.at (i := 3) rfl) rfl)) ?_
  refine RunL.still rfl rfl rfl (Still.lenSlice rfl rfl Tryz.underlying22) ?_
  refine RunL.grows rfl rfl rfl (Grows.alloc rfl Tryz.zeroValue3) (fun b6 _ => ?_)
  refine RunL.does0 rfl rfl (Does.store1 rfl rfl rfl (i := 0) rfl Tryz.sizeOf3 (rfl) (rfl)) (fun _ _ => ?_)
  refine RunL.nil ?_
  refine Ends.then ?_
  refine RunC.seq ?_
  refine RunC.seq ?_
  refine RunC.region ?_
  refine RunL.still rfl rfl rfl (Still.loads rfl rfl Tryz.isAgg24 Tryz.sizeOf24 (vs := [_]) rfl (fun _ hs => cells_nth (hs.at (i := 4) rfl) ⟨rfl, trivial⟩)) ?_
  refine RunL.grows rfl rfl rfl (Grows.call (vs := #[_]) rfl rfl Tryz.call45 (fun w hs => gl_faces base A cap g w)) (fun gb _ => ?_)
  refine RunL.nil ?_
  refine Ends.then ?_
  refine RunC.block ?_
  refine RunC.conv (fun _ hs => Sym.all (l := [_, _, _]) (hs.sub (HSub.pick 3 rfl (HSub.pick 2 rfl (HSub.pick 1 rfl (HSub.pick 0 rfl (HSub.pick 0 rfl (HSub.pick 0 rfl (HSub.pick 0 rfl (HSub.nil _)))))))))) ?_
  refine RunC.rangeFuncJ (V := .tuple #[]) (gf := 70) (N := 4 * g.length) (lb := #[ptrV gb]) () (fun _ : Unit => none) (fun j => [.agg #[iv ((j / 4 : Nat) : Int), iv ((j % 4 : Nat) : Int)], fcV (fAt g (j / 4) (j % 4))]) (fun j s => HL.all [HL.own 35 20 (.slice q.1 (2 * g.length) q.2) (2 * g.length) ((cg2To (uniG g g) g.length (twH g.length) j).flatMap encT), HL.obj b4 (.cells #[.slice q.1 (2 * g.length) q.2] 24 (0, 0)), HL.obj b6 (.cells #[iv (g.length : Int)] 3 (0, 0))]) rfl rfl (fun _ => rfl) rfl Tryz.call70 rfl (HSub.pick 0 rfl (HSub.refl _)) ?_ ?_ ?_
  · intro l rc j s w S hO hS hj hjs ha hb
    obtain ⟨t, f, rfl, hf4⟩ : ∃ t f, j = 4 * t + f ∧ f < 4 := ⟨j / 4, j % 4, by omega, by omega⟩
    have htN : t < g.length := by omega
    have hxb := okG_tet hok htN hf4
    have e1 : (4 * t + f) / 4 = t := by omega
    have e2 : (4 * t + f) % 4 = f := by omega
    rw [e1, e2]
    refine RunC.seq ?_
    refine RunC.region ?_
    refine RunL.grows rfl rfl rfl (Grows.alloc rfl Tryz.zeroValue68) (fun b7 _ => ?_)
    refine RunL.does0 rfl rfl (Does.store rfl rfl rfl (i := 0) rfl Tryz.sizeOf68 rfl (rfl) rfl) (fun _ _ => ?_)
    refine RunL.nil ?_
    refine Ends.then ?_
    refine RunC.region ?_
    refine RunL.grows rfl rfl rfl (Grows.alloc rfl Tryz.zeroValue34) (fun b8 _ => ?_)
    refine RunL.does0 rfl rfl (Does.store rfl rfl rfl (i := 0) rfl Tryz.sizeOf34 rfl (rfl) rfl) (fun _ _ => ?_)
    refine RunL.nil ?_
    refine Ends.roundBeginJ (Fr.Sub.refl _) (HSub.pick 2 rfl (HSub.refl _)) ?_
    refine RunC.conv (fun _ hs => Sym.unall (hs.sub (HSub.pick 3 rfl (HSub.pick 0 rfl (HSub.pick 0 rfl (HSub.pick 0 rfl (HSub.nil _))))))) ?_
    refine RunC.block ?_
    refine RunC.seq ?_
    refine RunC.region ?_
    refine RunL.still rfl rfl rfl (Still.fieldAddrL (off := 0) (off' := 0) rfl rfl Tryz.underlying34 rfl Tryz.sizeOf3 rfl) ?_
    refine RunL.still rfl rfl rfl (Still.load rfl rfl Tryz.isAgg3 (fun _ hs => cell_nth (hs.at (i := 4) rfl) rfl)) ?_
    refine RunL.still rfl rfl rfl (Still.geq rfl rfl rfl) ?_
    refine RunL.still rfl rfl rfl (Still.move rfl rfl) ?_
    refine RunL.split (t := 29) rfl (fun h29 => ?_) (fun h29 => ?_)
    · have h29 := of_decide_eq_true h29
      refine RunL.still rfl rfl rfl (Still.fieldAddrL (off := 0) (off' := 1) rfl rfl Tryz.underlying34 rfl Tryz.sizeOf32 rfl) ?_
      refine RunL.still rfl rfl rfl (Still.loads rfl rfl Tryz.isAgg32 Tryz.sizeOf32 (vs := [_, _, _, _]) rfl (fun _ hs => cells_nth (hs.at (i := 4) rfl) ⟨rfl, ⟨rfl, ⟨rfl, ⟨rfl, trivial⟩⟩⟩⟩)) ?_
      refine RunL.grows rfl rfl rfl (Grows.call (vs := #[_]) rfl rfl Tryz.call46 (fun w hs => gl_sign _ w)) (fun _ _ => ?_)
      refine RunL.still rfl rfl rfl (Still.eql rfl rfl rfl) ?_
      refine RunL.still rfl rfl rfl (Still.pickT rfl rfl rfl) ?_
      refine RunL.nil ?_
      refine Ends.then ?_
      refine RunC.cond rfl (fun h34 => ?_) (fun h34 => ?_)
      · have h34 := of_decide_eq_true h34
        refine RunC.seq ?_
        refine RunC.draw 13 (.still 0 (.still 1 (.still 2 (.still 3 (.still 4 (.still 5 (.still 6 (.still 7 (.still 8 (.still 9 (.still 10 (.still 11 (.still 12 .done))))))))))))) (by kernel_rfl) (by kernel_rfl) ?_
        refine RunG.still rfl rfl rfl rfl (Still.fieldAddrL (off := 0) (off' := 0) rfl rfl Tryz.underlying24 rfl Tryz.sizeOf22 rfl) ?_
        refine RunG.still rfl rfl rfl rfl (Still.load rfl rfl Tryz.isAgg22 (fun _ hs => cell_nth (hs.at (i := 1) rfl) rfl)) ?_
        refine RunG.still rfl rfl rfl rfl (Still.fieldAddrL (off := 0) (off' := 0) rfl rfl Tryz.underlying68 rfl Tryz.sizeOf3 rfl) ?_
        refine RunG.still rfl rfl rfl rfl (Still.load rfl rfl Tryz.isAgg3 (fun _ hs => cell_nth (hs.at (i := 5) rfl) rfl)) ?_
        refine RunG.still rfl rfl rfl rfl (Still.fieldAddrL (off := 0) (off' := 1) rfl rfl Tryz.underlying68 rfl Tryz.sizeOf3 rfl) ?_
        refine RunG.still rfl rfl rfl rfl (Still.load rfl rfl Tryz.isAgg3 (fun _ hs => cell_nth (hs.at (i := 5) rfl) rfl)) ?_
        refine RunG.still rfl rfl rfl rfl (Still.fieldAddrL (off := 0) (off' := 0) rfl rfl Tryz.underlying34 rfl Tryz.sizeOf3 rfl) ?_
        refine RunG.still rfl rfl rfl rfl (Still.load rfl rfl Tryz.isAgg3 (fun _ hs => cell_nth (hs.at (i := 4) rfl) rfl)) ?_
        refine RunG.still rfl rfl rfl rfl (Still.load rfl rfl Tryz.isAgg3 (fun _ hs => cell_nth (hs.at (i := 2) rfl) rfl)) ?_
        refine RunG.still rfl rfl rfl rfl (Still.add rfl rfl rfl (fits64 (by omega) (by omega))) ?_
        refine RunG.still rfl rfl rfl rfl (Still.indexOwnI (m := t) rfl rfl rfl Tryz.underlying22 Tryz.sizeOf35 (fun _ hs => hs.own (i := 0) rfl) (rfl) (by omega)) ?_
        refine RunG.still rfl rfl rfl rfl (Still.indexArrE f rfl rfl rfl Tryz.underlying35 Tryz.sizeOf34 (rfl) (by omega)) ?_
        refine RunG.still rfl rfl rfl rfl (Still.fieldAddrA (off := 0) rfl rfl Tryz.underlying34 rfl Tryz.sizeOf3 rfl) ?_
        refine RunG.done ?_
        show RunL _ _ _ [_] _ _
        refine RunL.does0 rfl rfl (Does.storeOwn1 (xs' := ((setFc (cg2To (uniG g g) g.length (twH g.length) (4 * t + f)) t f (twH g.length t f (fAt (uniG g g) t f))).flatMap encT)) rfl rfl ((congrArg (fun z => Addr.add z _) (add_add _ _ _)).trans (add_add _ _ _)) rfl (i := 0) rfl Tryz.sizeOf3 rfl (by rw [flat_len encT_len, cg2To_len]; omega) ((setTet_flat (by rw [cg2To_len]; omega) hf4 _).trans (congrArg (List.flatMap encT) (by rw [(cg2To_cur (n := g.length) hul htN hf4).1, tw_lo hok htN hf4 ⟨h29, h34⟩, uniG_lo htN])))) (fun _ _ => ?_)
        refine RunL.nil ?_
        refine Ends.then ?_
        refine RunC.draw 13 (.still 0 (.still 1 (.still 2 (.still 3 (.still 4 (.still 5 (.still 6 (.still 7 (.still 8 (.still 9 (.still 10 (.still 11 (.still 12 .done))))))))))))) (by kernel_rfl) (by kernel_rfl) ?_
        refine RunG.still rfl rfl rfl rfl (Still.fieldAddrL (off := 0) (off' := 0) rfl rfl Tryz.underlying24 rfl Tryz.sizeOf22 rfl) ?_
        refine RunG.still rfl rfl rfl rfl (Still.load rfl rfl Tryz.isAgg22 (fun _ hs => cell_nth (hs.at (i := 1) rfl) rfl)) ?_
        refine RunG.still rfl rfl rfl rfl (Still.fieldAddrL (off := 0) (off' := 0) rfl rfl Tryz.underlying68 rfl Tryz.sizeOf3 rfl) ?_
        refine RunG.still rfl rfl rfl rfl (Still.load rfl rfl Tryz.isAgg3 (fun _ hs => cell_nth (hs.at (i := 5) rfl) rfl)) ?_
        refine RunG.still rfl rfl rfl rfl (Still.load rfl rfl Tryz.isAgg3 (fun _ hs => cell_nth (hs.at (i := 2) rfl) rfl)) ?_
        refine RunG.still rfl rfl rfl rfl (Still.add rfl rfl rfl (fits64 (by omega) (by omega))) ?_
        refine RunG.still rfl rfl rfl rfl (Still.fieldAddrL (off := 0) (off' := 1) rfl rfl Tryz.underlying68 rfl Tryz.sizeOf3 rfl) ?_
        refine RunG.still rfl rfl rfl rfl (Still.load rfl rfl Tryz.isAgg3 (fun _ hs => cell_nth (hs.at (i := 5) rfl) rfl)) ?_
        refine RunG.still rfl rfl rfl rfl (Still.fieldAddrL (off := 0) (off' := 0) rfl rfl Tryz.underlying34 rfl Tryz.sizeOf3 rfl) ?_
        refine RunG.still rfl rfl rfl rfl (Still.load rfl rfl Tryz.isAgg3 (fun _ hs => cell_nth (hs.at (i := 4) rfl) rfl)) ?_
        refine RunG.still rfl rfl rfl rfl (Still.indexOwnI (m := (t + g.length)) rfl rfl rfl Tryz.underlying22 Tryz.sizeOf35 (fun _ hs => hs.own (i := 0) rfl) (by omega) (by omega)) ?_
        refine RunG.still rfl rfl rfl rfl (Still.indexArrE f rfl rfl rfl Tryz.underlying35 Tryz.sizeOf34 (rfl) (by omega)) ?_
        refine RunG.still rfl rfl rfl rfl (Still.fieldAddrA (off := 0) rfl rfl Tryz.underlying34 rfl Tryz.sizeOf3 rfl) ?_
        refine RunG.done ?_
        show RunL _ _ _ [_] _ _
        refine RunL.does0 rfl rfl (Does.storeOwn1 (xs' := ((cg2To (uniG g g) g.length (twH g.length) (4 * t + f + 1)).flatMap encT)) rfl rfl ((congrArg (fun z => Addr.add z _) (add_add _ _ _)).trans (add_add _ _ _)) rfl (i := 0) rfl Tryz.sizeOf3 rfl (by rw [flat_len encT_len, setFc_len, cg2To_len]; omega) ((setTet_flat (by rw [setFc_len, cg2To_len]; omega) hf4 _).trans (congrArg (List.flatMap encT) (by rw [cg2To_step _ _ _ _ hf4, fAt_setFc (by rw [cg2To_len]; omega) hf4 hf4, if_neg (by omega), (cg2To_cur (n := g.length) hul htN hf4).2, tw_hi hok htN hf4 ⟨h29, h34⟩, uniG_hi htN hf4, shF, if_pos h29])))) (fun _ _ => ?_)
        refine RunL.nil ?_
        refine Ends.block ?_
        refine Ends.conv (fun _ hs => (Sym.all (l := [HL.own 35 20 (.slice q.1 (2 * g.length) q.2) (2 * g.length) ((cg2To (uniG g g) g.length (twH g.length) (4 * t + f + 1)).flatMap encT), HL.obj b4 (.cells #[.slice q.1 (2 * g.length) q.2] 24 (0, 0)), HL.obj b6 (.cells #[iv (g.length : Int)] 3 (0, 0))]) (hs.sub (HSub.pick 0 rfl (HSub.pick 0 rfl (HSub.pick 0 rfl (HSub.pick 0 rfl (HSub.nil _))))))).sub (HSub.pick 1 rfl (HSub.pick 0 rfl (HSub.nil _)))) (Ends.roundEndJ () rfl (HSub.refl _))
      · have h34 := of_decide_eq_false h34
        refine RunC.skip ?_
        refine Ends.block ?_
        have hno := tw_no htN hf4 (by omega)
        refine Ends.conv (fun _ hs => (Sym.all (l := [HL.own 35 20 (.slice q.1 (2 * g.length) q.2) (2 * g.length) ((cg2To (uniG g g) g.length (twH g.length) (4 * t + f + 1)).flatMap encT), HL.obj b4 (.cells #[.slice q.1 (2 * g.length) q.2] 24 (0, 0)), HL.obj b6 (.cells #[iv (g.length : Int)] 3 (0, 0))]) (hs.sub (HSub.pick 0 (by rw [cg2To_keep (n := g.length) hul htN hf4 hno.1 hno.2]; rfl) (HSub.pick 0 rfl (HSub.pick 0 rfl (HSub.pick 0 rfl (HSub.nil _))))))).sub (HSub.pick 1 rfl (HSub.pick 0 rfl (HSub.nil _)))) (Ends.roundEndJ () rfl (HSub.refl _))
    · have h29 := of_decide_eq_false h29
      refine RunL.off rfl rfl rfl ?_
      refine RunL.off rfl rfl rfl ?_
      refine RunL.off rfl rfl rfl ?_
      refine RunL.off rfl rfl rfl ?_
      refine RunL.still rfl rfl rfl (Still.pickF rfl rfl rfl) ?_
      refine RunL.nil ?_
      refine Ends.then ?_
      refine RunC.cond_false rfl ?_
      refine RunC.skip ?_
      refine Ends.block ?_
      have hno := tw_no htN hf4 (by omega)
      refine Ends.conv (fun _ hs => (Sym.all (l := [HL.own 35 20 (.slice q.1 (2 * g.length) q.2) (2 * g.length) ((cg2To (uniG g g) g.length (twH g.length) (4 * t + f + 1)).flatMap encT), HL.obj b4 (.cells #[.slice q.1 (2 * g.length) q.2] 24 (0, 0)), HL.obj b6 (.cells #[iv (g.length : Int)] 3 (0, 0))]) (hs.sub (HSub.pick 0 (by rw [cg2To_keep (n := g.length) hul htN hf4 hno.1 hno.2]; rfl) (HSub.pick 0 rfl (HSub.pick 0 rfl (HSub.pick 0 rfl (HSub.nil _))))))).sub (HSub.pick 1 rfl (HSub.pick 0 rfl (HSub.nil _)))) (Ends.roundEndJ () rfl (HSub.refl _))
  · intro l J w hs hy
    exact gl_faces1 base A cap g l gb _ _ J w rfl (hs.holds _ (List.mem_cons_self ..)) hs.ltK (fun w1 ho => hg.old (hs.oldK ho)) (fun w1 ho => cell_nth (hs.keep (i := 0) rfl ho) rfl) (fun t f s ht hf hj w1 ho hh hl => by have h := hy (4 * t + f) s (by omega) hj w1 ho hh hl; rwa [show (4 * t + f) / 4 = t by omega, show (4 * t + f) % 4 = f by omega] at h)
  · intro D j s hjN
    cases s
    · change Go.V.Ends _ Exit.normal _ _ _
      refine Ends.conv (fun _ hs => Sym.marks_push (hs.sub (HSub.pick 1 rfl (HSub.pick 4 rfl (HSub.pick 0 rfl (HSub.pick 0 rfl (HSub.pick 0 rfl (HSub.pick 0 rfl (HSub.nil _))))))))) ?_
      refine Ends.conv (fun _ hs => Sym.unall (hs.sub (HSub.pick 1 rfl (HSub.pick 0 rfl (HSub.pick 0 rfl (HSub.pick 0 rfl (HSub.pick 0 rfl (HSub.nil _)))))))) ?_
      have hgN := hjN rfl
      subst hgN
      refine Ends.conv (fun _ hs => hs.re 0 rfl (show _ = HL.own 35 20 (.slice q.1 (2 * g.length) q.2) (2 * g.length) ((twoG g).flatMap encT) by rw [cg2To_all _ (n := g.length) hul]; rfl)) ?_
      refine Ends.block ?_
      refine Ends.then ?_
      refine RunC.seq ?_
      refine RunC.region ?_
      refine RunL.still rfl rfl rfl (Still.loads rfl rfl Tryz.isAgg24 Tryz.sizeOf24 (vs := [_]) rfl (fun _ hs => cells_nth (hs.at (i := 1) rfl) ⟨rfl, trivial⟩)) ?_
      refine RunL.does0 rfl rfl (Does.store rfl rfl rfl (i := 5) rfl Tryz.sizeOf24 rfl (rfl) rfl) (fun _ _ => ?_)
      refine RunL.still rfl rfl rfl (Still.assign rfl rfl) ?_
      refine RunL.nil ?_
      refine Ends.then ?_
      refine RunC.ret ?_
      refine Ends.leaveM (Ds := [D]) (H := [_, _]) (.inl rfl) (HSub.pick 3 rfl (HSub.pick 4 rfl (HSub.pick 0 rfl (HSub.nil _)))) (fun _ _ ok => ok.results2 Tryz.results12 (Holds.cell rfl (fun _ hs => load_cells (vs := [_]) Tryz.isAgg24 Tryz.sizeOf24 rfl (cells_nth (hs.at (i := 0) rfl) ⟨rfl, trivial⟩))) (Holds.tmp rfl)) (fun w1 hs => ?_)
      exact Ret.intro q hq2 (by show _ = Value.tuple #[gluV q.1 q.2 (twoG g), iv 0]; simp only [gluV, twoG_len]; try rfl) (HSub.pick 1 (by rw [ownG, twoG_len]; rfl) (HSub.nil _)) hs

theorem gl_Double (base : Option Addr) (A : Addr) (cap : Nat) (g : Glu) (w : World) (hg : GluAt w base A g) (hok : okG g = true) (hn : 2 * g.length ≤ 1000) : Gives Tryz.prog 13 #[gluV base cap g] w Nil (fun q : Option Addr × Nat => OKB q (dblG g).length) (fun q => .tuple #[gluV q.1 q.2 (dblG g), iv 0]) (fun q => [ownG q (dblG g)]) := by
  have hlen := hg.len
  have hul : (uniG g g).length = 2 * g.length := by rw [uniG_len]; omega
  refine fn_of_runM (S := Nil) (args := [gluV base cap g]) (n := 58) (L := []) Tryz.func13 rfl Tryz.ntmps13 (Nat.le_of_ble_eq_true rfl) (Sym.nil _ _) ?_
  change RunC _ _ _ [(0, _)] _
  refine RunC.conv (fun _ hs => hs.marks_nil) ?_
  refine RunC.seq ?_
  refine RunC.region ?_
  refine RunL.grows rfl rfl rfl (Grows.box rfl rfl) (fun b1 _ => ?_)
  refine RunL.grows rfl rfl rfl (Grows.alloc rfl Tryz.zeroValue24) (fun b2 _ => ?_)
  refine RunL.still rfl rfl rfl (Still.assign rfl rfl) ?_
  refine RunL.nil ?_
  refine Ends.then ?_
  refine RunC.seq ?_
  refine RunC.region ?_
  refine RunL.still rfl rfl rfl (Still.loads rfl rfl Tryz.isAgg24 Tryz.sizeOf24 (vs := [_]) rfl (fun _ hs => cells_nth (hs.at (i := 1) rfl) ⟨rfl, trivial⟩)) ?_
  refine RunL.still rfl rfl rfl (Still.loads rfl rfl Tryz.isAgg24 Tryz.sizeOf24 (vs := [_]) rfl (fun _ hs => cells_nth (hs.at (i := 1) rfl) ⟨rfl, trivial⟩)) ?_
  refine RunL.grows rfl rfl rfl (Grows.call (vs := #[_, _]) rfl rfl Tryz.call22 (fun w hs => gl_Union_ok base A cap g base A cap g w (hg.sym hs) (hg.sym hs) hok hok (by omega))) (fun q hq => ?_)
  have hq : OKB q (uniG g g).length := hq
  have hq2 : OKB q (dblG g).length := by have := hq; rw [hul] at this; rw [dblG_len]; exact this
  refine RunL.conv (fun _ hs => hs.re 0 rfl (show _ = HL.own 35 20 (.slice q.1 (2 * g.length) q.2) (2 * g.length) ((uniG g g).flatMap encT) by rw [ownG, hul])) ?_
  refine RunL.still rfl rfl rfl (Still.move rfl rfl) ?_
  refine RunL.still rfl rfl rfl (Still.extractN rfl rfl rfl) ?_
  refine RunL.still rfl rfl rfl (Still.extractN rfl rfl rfl) ?_
  refine RunL.grows rfl rfl rfl (Grows.alloc rfl Tryz.zeroValue24) (fun b4 _ => ?_)
  refine RunL.does0 rfl rfl (Does.store rfl rfl rfl (i := 0) rfl Tryz.sizeOf24 rfl (rfl) rfl) (fun _ _ => ?_)
  refine RunL.conv (fun _ hs => hs.re 0 rfl (show _ = HL.obj b4 (.cells #[.slice q.1 (2 * g.length) q.2] 24 (0, 0)) from by simp only [gluV, hul]; rfl)) ?_
  refine RunL.still rfl rfl rfl (Still.assign rfl rfl) ?_
  refine RunL.nil ?_
  refine Ends.then ?_
  refine RunC.seq ?_
  refine RunC.seq ?_
  refine RunC.region ?_
  refine RunL.still rfl rfl rfl (Still.move rfl rfl) ?_
  refine RunL.still rfl rfl rfl (Still.neq rfl rfl rfl) ?_
  refine RunL.again (t := 16) (u := .bool false) rfl (rfl) ?_
  refine RunL.nil ?_
  refine Ends.then ?_
  refine RunC.cond_false rfl ?_
  refine RunC.skip ?_
  refine Ends.then ?_
  refine RunC.seq ?_
  refine RunC.region ?_
  refine RunL.still rfl rfl rfl (Still.fieldAddrL (off := 0) (off' := 0) rfl rfl Tryz.underlying24 rfl Tryz.sizeOf22 rfl) ?_
  refine RunL.still rfl rfl rfl (Still.load rfl rfl Tryz.isAgg22 (fun _ hs => cell_nth (hs.at (i := 3) rfl) rfl)) ?_
  refine RunL.still rfl rfl rfl (Still.lenSlice rfl rfl Tryz.underlying22) ?_
  refine RunL.grows rfl rfl rfl (Grows.alloc rfl Tryz.zeroValue3) (fun b6 _ => ?_)
  refine RunL.does0 rfl rfl (Does.store1 rfl rfl rfl (i := 0) rfl Tryz.sizeOf3 (rfl) (rfl)) (fun _ _ => ?_)
  refine RunL.nil ?_
  refine Ends.then ?_
  refine RunC.seq ?_
  refine RunC.seq ?_
  refine RunC.region ?_
  refine RunL.still rfl rfl rfl (Still.loads rfl rfl Tryz.isAgg24 Tryz.sizeOf24 (vs := [_]) rfl (fun _ hs => cells_nth (hs.at (i := 4) rfl) ⟨rfl, trivial⟩)) ?_
  refine RunL.grows rfl rfl rfl (Grows.call (vs := #[_]) rfl rfl Tryz.call45 (fun w hs => gl_faces base A cap g w)) (fun gb _ => ?_)
  refine RunL.nil ?_
  refine Ends.then ?_
  refine RunC.block ?_
  refine RunC.conv (fun _ hs => Sym.all (l := [_, _, _]) (hs.sub (HSub.pick 3 rfl (HSub.pick 2 rfl (HSub.pick 1 rfl (HSub.pick 0 rfl (HSub.pick 0 rfl (HSub.pick 0 rfl (HSub.pick 0 rfl (HSub.nil _)))))))))) ?_
  refine RunC.rangeFuncJ (V := .tuple #[]) (gf := 70) (N := 4 * g.length) (lb := #[ptrV gb]) () (fun _ : Unit => none) (fun j => [.agg #[iv ((j / 4 : Nat) : Int), iv ((j % 4 : Nat) : Int)], fcV (fAt g (j / 4) (j % 4))]) (fun j s => HL.all [HL.own 35 20 (.slice q.1 (2 * g.length) q.2) (2 * g.length) ((cg2To (uniG g g) g.length (dbH g.length) j).flatMap encT), HL.obj b4 (.cells #[.slice q.1 (2 * g.length) q.2] 24 (0, 0)), HL.obj b6 (.cells #[iv (g.length : Int)] 3 (0, 0))]) rfl rfl (fun _ => rfl) rfl Tryz.call70 rfl (HSub.pick 0 rfl (HSub.refl _)) ?_ ?_ ?_
  · intro l rc j s w S hO hS hj hjs ha hb
    obtain ⟨t, f, rfl, hf4⟩ : ∃ t f, j = 4 * t + f ∧ f < 4 := ⟨j / 4, j % 4, by omega, by omega⟩
    have htN : t < g.length := by omega
    have hxb := okG_tet hok htN hf4
    have e1 : (4 * t + f) / 4 = t := by omega
    have e2 : (4 * t + f) % 4 = f := by omega
    rw [e1, e2]
    refine RunC.seq ?_
    refine RunC.region ?_
    refine RunL.grows rfl rfl rfl (Grows.alloc rfl Tryz.zeroValue68) (fun b7 _ => ?_)
    refine RunL.does0 rfl rfl (Does.store rfl rfl rfl (i := 0) rfl Tryz.sizeOf68 rfl (rfl) rfl) (fun _ _ => ?_)
    refine RunL.nil ?_
    refine Ends.then ?_
    refine RunC.region ?_
    refine RunL.grows rfl rfl rfl (Grows.alloc rfl Tryz.zeroValue34) (fun b8 _ => ?_)
    refine RunL.does0 rfl rfl (Does.store rfl rfl rfl (i := 0) rfl Tryz.sizeOf34 rfl (rfl) rfl) (fun _ _ => ?_)
    refine RunL.nil ?_
    refine Ends.roundBeginJ (Fr.Sub.refl _) (HSub.pick 2 rfl (HSub.refl _)) ?_
    refine RunC.conv (fun _ hs => Sym.unall (hs.sub (HSub.pick 3 rfl (HSub.pick 0 rfl (HSub.pick 0 rfl (HSub.pick 0 rfl (HSub.nil _))))))) ?_
    refine RunC.block ?_
    refine RunC.seq ?_
    refine RunC.region ?_
    refine RunL.still rfl rfl rfl (Still.fieldAddrL (off := 0) (off' := 0) rfl rfl Tryz.underlying34 rfl Tryz.sizeOf3 rfl) ?_
    refine RunL.still rfl rfl rfl (Still.load rfl rfl Tryz.isAgg3 (fun _ hs => cell_nth (hs.at (i := 4) rfl) rfl)) ?_
    refine RunL.still rfl rfl rfl (Still.lss rfl rfl rfl) ?_
    refine RunL.nil ?_
    refine Ends.then ?_
    refine RunC.cond rfl (fun h28 => ?_) (fun h28 => ?_)
    · have h28 := of_decide_eq_true h28
      refine RunC.seq ?_
      refine RunC.draw 14 (.still 0 (.still 1 (.still 2 (.still 3 (.still 4 (.still 5 (.still 6 (.still 7 (.still 8 (.still 9 (.still 12 (.one 10 (.still 11 (.still 13 .done)))))))))))))) (by kernel_rfl) (by kernel_rfl) ?_
      refine RunG.still rfl rfl rfl rfl (Still.fieldAddrL (off := 0) (off' := 0) rfl rfl Tryz.underlying24 rfl Tryz.sizeOf22 rfl) ?_
      refine RunG.still rfl rfl rfl rfl (Still.load rfl rfl Tryz.isAgg22 (fun _ hs => cell_nth (hs.at (i := 1) rfl) rfl)) ?_
      refine RunG.still rfl rfl rfl rfl (Still.fieldAddrL (off := 0) (off' := 0) rfl rfl Tryz.underlying68 rfl Tryz.sizeOf3 rfl) ?_
      refine RunG.still rfl rfl rfl rfl (Still.load rfl rfl Tryz.isAgg3 (fun _ hs => cell_nth (hs.at (i := 5) rfl) rfl)) ?_
      refine RunG.still rfl rfl rfl rfl (Still.fieldAddrL (off := 0) (off' := 1) rfl rfl Tryz.underlying68 rfl Tryz.sizeOf3 rfl) ?_
      refine RunG.still rfl rfl rfl rfl (Still.load rfl rfl Tryz.isAgg3 (fun _ hs => cell_nth (hs.at (i := 5) rfl) rfl)) ?_
      refine RunG.still rfl rfl rfl rfl (Still.fieldAddrL (off := 0) (off' := 0) rfl rfl Tryz.underlying68 rfl Tryz.sizeOf3 rfl) ?_
      refine RunG.still rfl rfl rfl rfl (Still.load rfl rfl Tryz.isAgg3 (fun _ hs => cell_nth (hs.at (i := 5) rfl) rfl)) ?_
      refine RunG.still rfl rfl rfl rfl (Still.load rfl rfl Tryz.isAgg3 (fun _ hs => cell_nth (hs.at (i := 2) rfl) rfl)) ?_
      refine RunG.still rfl rfl rfl rfl (Still.add rfl rfl rfl (fits64 (by omega) (by omega))) ?_
      refine RunG.still rfl rfl rfl rfl (Still.indexOwnI (m := t) rfl rfl rfl Tryz.underlying22 Tryz.sizeOf35 (fun _ hs => hs.own (i := 0) rfl) (rfl) (by omega)) ?_
      refine RunG.grows rfl rfl rfl rfl (Grows.call (vs := #[]) rfl rfl Tryz.call47 (fun w hs => gl_identity w)) (fun _ _ => ?_)
      refine RunG.still rfl rfl rfl rfl (Still.build_1_4 (fun x0_0 x1_0 x1_1 x1_2 x1_3 => .agg #[x0_0, x1_0, x1_1, x1_2, x1_3]) rfl rfl rfl (fun _ => by kernel_rfl)) ?_
      refine RunG.still rfl rfl rfl rfl (Still.indexArrE f rfl rfl rfl Tryz.underlying35 Tryz.sizeOf34 (rfl) (by omega)) ?_
      refine RunG.done ?_
      show RunL _ _ _ [_] _ _
      refine RunL.does0 rfl rfl (Does.storeOwn (xs' := ((setFc (cg2To (uniG g g) g.length (dbH g.length) (4 * t + f)) t f (dbH g.length t f (fAt (uniG g g) t f))).flatMap encT)) rfl rfl (add_add _ _ _) rfl (i := 0) rfl Tryz.sizeOf34 rfl (by decide) rfl (by rw [flat_len encT_len, cg2To_len]; omega) (by rw [db_lo htN h28]; exact setFc_flat (by rw [cg2To_len]; omega) hf4 _)) (fun _ _ => ?_)
      refine RunL.nil ?_
      refine Ends.then ?_
      refine RunC.draw 14 (.still 0 (.still 1 (.still 2 (.still 3 (.still 4 (.still 5 (.still 6 (.still 7 (.still 8 (.still 9 (.still 12 (.one 10 (.still 11 (.still 13 .done)))))))))))))) (by kernel_rfl) (by kernel_rfl) ?_
      refine RunG.still rfl rfl rfl rfl (Still.fieldAddrL (off := 0) (off' := 0) rfl rfl Tryz.underlying24 rfl Tryz.sizeOf22 rfl) ?_
      refine RunG.still rfl rfl rfl rfl (Still.load rfl rfl Tryz.isAgg22 (fun _ hs => cell_nth (hs.at (i := 1) rfl) rfl)) ?_
      refine RunG.still rfl rfl rfl rfl (Still.fieldAddrL (off := 0) (off' := 0) rfl rfl Tryz.underlying68 rfl Tryz.sizeOf3 rfl) ?_
      refine RunG.still rfl rfl rfl rfl (Still.load rfl rfl Tryz.isAgg3 (fun _ hs => cell_nth (hs.at (i := 5) rfl) rfl)) ?_
      refine RunG.still rfl rfl rfl rfl (Still.load rfl rfl Tryz.isAgg3 (fun _ hs => cell_nth (hs.at (i := 2) rfl) rfl)) ?_
      refine RunG.still rfl rfl rfl rfl (Still.add rfl rfl rfl (fits64 (by omega) (by omega))) ?_
      refine RunG.still rfl rfl rfl rfl (Still.fieldAddrL (off := 0) (off' := 1) rfl rfl Tryz.underlying68 rfl Tryz.sizeOf3 rfl) ?_
      refine RunG.still rfl rfl rfl rfl (Still.load rfl rfl Tryz.isAgg3 (fun _ hs => cell_nth (hs.at (i := 5) rfl) rfl)) ?_
      refine RunG.still rfl rfl rfl rfl (Still.fieldAddrL (off := 0) (off' := 0) rfl rfl Tryz.underlying68 rfl Tryz.sizeOf3 rfl) ?_
      refine RunG.still rfl rfl rfl rfl (Still.load rfl rfl Tryz.isAgg3 (fun _ hs => cell_nth (hs.at (i := 5) rfl) rfl)) ?_
      refine RunG.still rfl rfl rfl rfl (Still.indexOwnI (m := (t + g.length)) rfl rfl rfl Tryz.underlying22 Tryz.sizeOf35 (fun _ hs => hs.own (i := 0) rfl) (by omega) (by omega)) ?_
      refine RunG.grows rfl rfl rfl rfl (Grows.call (vs := #[]) rfl rfl Tryz.call47 (fun w hs => gl_identity w)) (fun _ _ => ?_)
      refine RunG.still rfl rfl rfl rfl (Still.build_1_4 (fun x0_0 x1_0 x1_1 x1_2 x1_3 => .agg #[x0_0, x1_0, x1_1, x1_2, x1_3]) rfl rfl rfl (fun _ => by kernel_rfl)) ?_
      refine RunG.still rfl rfl rfl rfl (Still.indexArrE f rfl rfl rfl Tryz.underlying35 Tryz.sizeOf34 (rfl) (by omega)) ?_
      refine RunG.done ?_
      show RunL _ _ _ [_] _ _
      refine RunL.does0 rfl rfl (Does.storeOwn (xs' := ((cg2To (uniG g g) g.length (dbH g.length) (4 * t + f + 1)).flatMap encT)) rfl rfl (add_add _ _ _) rfl (i := 0) rfl Tryz.sizeOf34 rfl (by decide) rfl (by rw [flat_len encT_len, setFc_len, cg2To_len]; omega) (by rw [cg2To_step _ _ _ _ hf4, db_hi htN hf4 h28]; exact setFc_flat (by rw [setFc_len, cg2To_len]; omega) hf4 _)) (fun _ _ => ?_)
      refine RunL.nil ?_
      refine Ends.block ?_
      refine Ends.conv (fun _ hs => (Sym.all (l := [HL.own 35 20 (.slice q.1 (2 * g.length) q.2) (2 * g.length) ((cg2To (uniG g g) g.length (dbH g.length) (4 * t + f + 1)).flatMap encT), HL.obj b4 (.cells #[.slice q.1 (2 * g.length) q.2] 24 (0, 0)), HL.obj b6 (.cells #[iv (g.length : Int)] 3 (0, 0))]) (hs.sub (HSub.pick 0 rfl (HSub.pick 0 rfl (HSub.pick 0 rfl (HSub.pick 0 rfl (HSub.nil _))))))).sub (HSub.pick 1 rfl (HSub.pick 0 rfl (HSub.nil _)))) (Ends.roundEndJ () rfl (HSub.refl _))
    · have h28 := of_decide_eq_false h28
      refine RunC.skip ?_
      refine Ends.block ?_
      have hno := db_no htN hf4 h28
      refine Ends.conv (fun _ hs => (Sym.all (l := [HL.own 35 20 (.slice q.1 (2 * g.length) q.2) (2 * g.length) ((cg2To (uniG g g) g.length (dbH g.length) (4 * t + f + 1)).flatMap encT), HL.obj b4 (.cells #[.slice q.1 (2 * g.length) q.2] 24 (0, 0)), HL.obj b6 (.cells #[iv (g.length : Int)] 3 (0, 0))]) (hs.sub (HSub.pick 0 (by rw [cg2To_keep (n := g.length) hul htN hf4 hno.1 hno.2]; rfl) (HSub.pick 0 rfl (HSub.pick 0 rfl (HSub.pick 0 rfl (HSub.nil _))))))).sub (HSub.pick 1 rfl (HSub.pick 0 rfl (HSub.nil _)))) (Ends.roundEndJ () rfl (HSub.refl _))
  · intro l J w hs hy
    exact gl_faces1 base A cap g l gb _ _ J w rfl (hs.holds _ (List.mem_cons_self ..)) hs.ltK (fun w1 ho => hg.old (hs.oldK ho)) (fun w1 ho => cell_nth (hs.keep (i := 0) rfl ho) rfl) (fun t f s ht hf hj w1 ho hh hl => by have h := hy (4 * t + f) s (by omega) hj w1 ho hh hl; rwa [show (4 * t + f) / 4 = t by omega, show (4 * t + f) % 4 = f by omega] at h)
  · intro D j s hjN
    cases s
    · change Go.V.Ends _ Exit.normal _ _ _
      refine Ends.conv (fun _ hs => Sym.marks_push (hs.sub (HSub.pick 1 rfl (HSub.pick 4 rfl (HSub.pick 0 rfl (HSub.pick 0 rfl (HSub.pick 0 rfl (HSub.pick 0 rfl (HSub.nil _))))))))) ?_
      refine Ends.conv (fun _ hs => Sym.unall (hs.sub (HSub.pick 1 rfl (HSub.pick 0 rfl (HSub.pick 0 rfl (HSub.pick 0 rfl (HSub.pick 0 rfl (HSub.nil _)))))))) ?_
      have hgN := hjN rfl
      subst hgN
      refine Ends.conv (fun _ hs => hs.re 0 rfl (show _ = HL.own 35 20 (.slice q.1 (2 * g.length) q.2) (2 * g.length) ((dblG g).flatMap encT) by rw [cg2To_all _ (n := g.length) hul]; rfl)) ?_
      refine Ends.block ?_
      refine Ends.then ?_
      refine RunC.seq ?_
      refine RunC.region ?_
      refine RunL.still rfl rfl rfl (Still.loads rfl rfl Tryz.isAgg24 Tryz.sizeOf24 (vs := [_]) rfl (fun _ hs => cells_nth (hs.at (i := 1) rfl) ⟨rfl, trivial⟩)) ?_
      refine RunL.does0 rfl rfl (Does.store rfl rfl rfl (i := 5) rfl Tryz.sizeOf24 rfl (rfl) rfl) (fun _ _ => ?_)
      refine RunL.still rfl rfl rfl (Still.assign rfl rfl) ?_
      refine RunL.nil ?_
      refine Ends.then ?_
      refine RunC.ret ?_
      refine Ends.leaveM (Ds := [D]) (H := [_, _]) (.inl rfl) (HSub.pick 3 rfl (HSub.pick 4 rfl (HSub.pick 0 rfl (HSub.nil _)))) (fun _ _ ok => ok.results2 Tryz.results13 (Holds.cell rfl (fun _ hs => load_cells (vs := [_]) Tryz.isAgg24 Tryz.sizeOf24 rfl (cells_nth (hs.at (i := 0) rfl) ⟨rfl, trivial⟩))) (Holds.tmp rfl)) (fun w1 hs => ?_)
      exact Ret.intro q hq2 (by show _ = Value.tuple #[gluV q.1 q.2 (dblG g), iv 0]; simp only [gluV, dblG_len]; try rfl) (HSub.pick 1 (by rw [ownG, dblG_len]; rfl) (HSub.nil _)) hs

end Go.Proofs
/- The chapter's examples. -/
namespace Go.Proofs
open Go Go.V
set_option maxRecDepth 20000
theorem gl_Orient_one (base : Option Addr) (A : Addr) (cap : Nat) (w : World) (hg : GluAt w base A gOne) : Gives Tryz.prog 15 #[gluV base cap gOne] w Nil (fun _ : Nat => True) (fun b => .tuple #[.slice (some ⟨b, 0, none⟩) 1 1, .bool true, iv 0]) (fun b => [HL.own 3 1 (.slice (some ⟨b, 0, none⟩) 1 1) 1 (ints [1])]) := by
  have h := gl_Orient base A cap gOne w hg one_ok
  have e1 : ∀ b, oriV gOne b = .tuple #[.slice (some ⟨b, 0, none⟩) 1 1, .bool true, iv 0] := fun b => by rw [oriV, one_ori]; rfl
  have e2 : ∀ b, oriH gOne b = [HL.own 3 1 (.slice (some ⟨b, 0, none⟩) 1 1) 1 (ints [1])] := fun b => by rw [oriH, one_ori]; rfl
  simp only [e1, e2] at h
  exact h
theorem gl_Text_one (g : Glu) (t : ByteArray) (base : Option Addr) (A : Addr) (cap : Nat) (w : World) (hg : GluAt w base A g) (hok : okG g = true) (ht : textG g = t) (he : Env w) : Gives Tryz.prog 26 #[gluV base cap g] w Nil (fun _ : Unit => True) (fun _ => .tuple #[.string t, iv 0]) (fun _ => []) := by
  subst ht; exact gl_Text base A cap g w hg hok he

theorem lw_sane (w : World) (he : Env w) : Gives Tryz.prog 9 #[] w Nil (fun _ : Unit => True) (fun _ => .bool true) (fun _ => []) := by
  refine fn_of_run (S := Nil) (args := []) (n := 150) (L := []) Tryz.func9 rfl Tryz.ntmps9 (Nat.le_of_ble_eq_true rfl) (Sym.nil _ _) ?_
  change RunC _ _ _ [] _
  refine RunC.seq ?_
  refine RunC.region ?_
  refine RunL.still rfl rfl rfl (Still.assign rfl rfl) ?_
  refine RunL.nil ?_
  refine Ends.then ?_
  refine RunC.seq ?_
  refine RunC.region ?_
  refine RunL.grows rfl rfl rfl (Grows.call (vs := #[]) rfl rfl Tryz.call39 (fun w hs => lw_One w)) (fun b16 _ => ?_)
  refine RunL.grows rfl rfl rfl (Grows.alloc rfl Tryz.zeroValue24) (fun b1 _ => ?_)
  refine RunL.does0 rfl rfl (Does.store rfl rfl rfl (i := 0) rfl Tryz.sizeOf24 rfl (rfl) rfl) (fun _ _ => ?_)
  refine RunL.conv (fun _ hs => hs.re 0 rfl (show _ = HL.obj b1 (.cells #[.slice (some ⟨b16, 0, none⟩) 1 1] 24 (0, 0)) from rfl)) ?_
  refine RunL.nil ?_
  refine Ends.then ?_
  refine RunC.seq ?_
  refine RunC.region ?_
  refine RunL.still rfl rfl rfl (Still.build_1 (fun x0_0 => .agg #[x0_0, .int .i64 0, .int .i64 0, .int .i64 0, .int .i64 0]) rfl rfl (fun _ => by kernel_rfl)) ?_
  refine RunL.still rfl rfl rfl (Still.build_1 (fun x0_0 => .agg #[x0_0, .int .i64 0, .int .i64 0, .int .i64 0, .int .i64 0]) rfl rfl (fun _ => by kernel_rfl)) ?_
  refine RunL.still rfl rfl rfl (Still.build_1 (fun x0_0 => .agg #[x0_0, .int .i64 0, .int .i64 0, .int .i64 0, .int .i64 0]) rfl rfl (fun _ => by kernel_rfl)) ?_
  refine RunL.still rfl rfl rfl (Still.build_1 (fun x0_0 => .agg #[x0_0, .int .i64 0, .int .i64 0, .int .i64 0, .int .i64 0]) rfl rfl (fun _ => by kernel_rfl)) ?_
  refine RunL.still rfl rfl rfl (Still.build_5_5_5_5 (fun x0_0 x0_1 x0_2 x0_3 x0_4 x1_0 x1_1 x1_2 x1_3 x1_4 x2_0 x2_1 x2_2 x2_3 x2_4 x3_0 x3_1 x3_2 x3_3 x3_4 => .agg #[x0_0, x0_1, x0_2, x0_3, x0_4, x1_0, x1_1, x1_2, x1_3, x1_4, x2_0, x2_1, x2_2, x2_3, x2_4, x3_0, x3_1, x3_2, x3_3, x3_4]) rfl rfl rfl rfl rfl (fun _ => by kernel_rfl)) ?_
  refine RunL.grows rfl rfl rfl (Grows.slice1 rfl rfl Tryz.underlying22 Tryz.sizeOf35 rfl Tryz.zeroValue35 (by decide)) (fun b22 _ => ?_)
  refine RunL.conv (fun _ hs => Sym.obj_own (k := 20) (n := 1) hs rfl (by omega)) ?_
  refine RunL.still rfl rfl rfl (Still.build_1 (fun x0_0 => .agg #[x0_0]) rfl rfl (fun _ => by kernel_rfl)) ?_
  refine RunL.grows rfl rfl rfl (Grows.alloc rfl Tryz.zeroValue24) (fun b2 _ => ?_)
  refine RunL.does0 rfl rfl (Does.store rfl rfl rfl (i := 0) rfl Tryz.sizeOf24 rfl (rfl) rfl) (fun _ _ => ?_)
  refine RunL.conv (fun _ hs => hs.re 0 rfl (show _ = HL.obj b2 (.cells #[.slice (some ⟨b22, 0, none⟩) 1 1] 24 (0, 0)) from rfl)) ?_
  refine RunL.nil ?_
  refine Ends.then ?_
  refine RunC.seq ?_
  refine RunC.region ?_
  refine RunL.grows rfl rfl rfl (Grows.call (vs := #[]) rfl rfl Tryz.call40 (fun w hs => rf_Identity w)) (fun _ _ => ?_)
  refine RunL.still rfl rfl rfl (Still.build_4 (fun x0_0 x0_1 x0_2 x0_3 => .agg #[.int .i64 0, x0_0, x0_1, x0_2, x0_3]) rfl rfl (fun _ => by kernel_rfl)) ?_
  refine RunL.still rfl rfl rfl (Still.build_1 (fun x0_0 => .agg #[x0_0, .int .i64 0, .int .i64 0, .int .i64 0, .int .i64 0]) rfl rfl (fun _ => by kernel_rfl)) ?_
  refine RunL.still rfl rfl rfl (Still.build_1 (fun x0_0 => .agg #[x0_0, .int .i64 0, .int .i64 0, .int .i64 0, .int .i64 0]) rfl rfl (fun _ => by kernel_rfl)) ?_
  refine RunL.still rfl rfl rfl (Still.build_1 (fun x0_0 => .agg #[x0_0, .int .i64 0, .int .i64 0, .int .i64 0, .int .i64 0]) rfl rfl (fun _ => by kernel_rfl)) ?_
  refine RunL.still rfl rfl rfl (Still.build_5_5_5_5 (fun x0_0 x0_1 x0_2 x0_3 x0_4 x1_0 x1_1 x1_2 x1_3 x1_4 x2_0 x2_1 x2_2 x2_3 x2_4 x3_0 x3_1 x3_2 x3_3 x3_4 => .agg #[x0_0, x0_1, x0_2, x0_3, x0_4, x1_0, x1_1, x1_2, x1_3, x1_4, x2_0, x2_1, x2_2, x2_3, x2_4, x3_0, x3_1, x3_2, x3_3, x3_4]) rfl rfl rfl rfl rfl (fun _ => by kernel_rfl)) ?_
  refine RunL.grows rfl rfl rfl (Grows.slice1 rfl rfl Tryz.underlying22 Tryz.sizeOf35 rfl Tryz.zeroValue35 (by decide)) (fun b30 _ => ?_)
  refine RunL.conv (fun _ hs => Sym.obj_own (k := 20) (n := 1) hs rfl (by omega)) ?_
  refine RunL.still rfl rfl rfl (Still.build_1 (fun x0_0 => .agg #[x0_0]) rfl rfl (fun _ => by kernel_rfl)) ?_
  refine RunL.grows rfl rfl rfl (Grows.alloc rfl Tryz.zeroValue24) (fun b3 _ => ?_)
  refine RunL.does0 rfl rfl (Does.store rfl rfl rfl (i := 0) rfl Tryz.sizeOf24 rfl (rfl) rfl) (fun _ _ => ?_)
  refine RunL.conv (fun _ hs => hs.re 0 rfl (show _ = HL.obj b3 (.cells #[.slice (some ⟨b30, 0, none⟩) 1 1] 24 (0, 0)) from rfl)) ?_
  refine RunL.nil ?_
  refine Ends.then ?_
  refine RunC.seq ?_
  refine RunC.region ?_
  refine RunL.still rfl rfl rfl (Still.loads rfl rfl Tryz.isAgg24 Tryz.sizeOf24 (vs := [_]) rfl (fun _ hs => cells_nth (hs.at (i := 4) rfl) ⟨rfl, trivial⟩)) ?_
  refine RunL.grows rfl rfl rfl (Grows.call (vs := #[_]) rfl rfl Tryz.call26 (fun w hs => gl_Text_one gOne txtOne (some ⟨b16, 0, none⟩) _ 1 w (GluAt.of_ownG (q := (some ⟨b16, 0, none⟩, 1)) (g := gOne) (by decide +kernel) (hs.at (i := 5) rfl)) one_ok one_text (he.sym hs))) (fun _ _ => ?_)
  refine RunL.still rfl rfl rfl (Still.move rfl rfl) ?_
  refine RunL.still rfl rfl rfl (Still.extractN rfl rfl rfl) ?_
  refine RunL.still rfl rfl rfl (Still.extractN rfl rfl rfl) ?_
  refine RunL.still rfl rfl rfl (Still.assign rfl rfl) ?_
  refine RunL.still rfl rfl rfl (Still.assign rfl rfl) ?_
  refine RunL.nil ?_
  refine Ends.then ?_
  refine RunC.seq ?_
  refine RunC.region ?_
  refine RunL.still rfl rfl rfl (Still.loads rfl rfl Tryz.isAgg24 Tryz.sizeOf24 (vs := [_]) rfl (fun _ hs => cells_nth (hs.at (i := 4) rfl) ⟨rfl, trivial⟩)) ?_
  refine RunL.grows rfl rfl rfl (Grows.call (vs := #[_]) rfl rfl Tryz.call15 (fun w hs => gl_Orient_one (some ⟨b16, 0, none⟩) _ 1 w (GluAt.of_ownG (q := (some ⟨b16, 0, none⟩, 1)) (g := gOne) (by decide +kernel) (hs.at (i := 5) rfl)))) (fun b39 _ => ?_)
  refine RunL.still rfl rfl rfl (Still.move rfl rfl) ?_
  refine RunL.still rfl rfl rfl (Still.extractN rfl rfl rfl) ?_
  refine RunL.still rfl rfl rfl (Still.extractN rfl rfl rfl) ?_
  refine RunL.still rfl rfl rfl (Still.extractN rfl rfl rfl) ?_
  refine RunL.still rfl rfl rfl (Still.assign rfl rfl) ?_
  refine RunL.still rfl rfl rfl (Still.assign rfl rfl) ?_
  refine RunL.still rfl rfl rfl (Still.assign rfl rfl) ?_
  refine RunL.nil ?_
  refine Ends.then ?_
  refine RunC.seq ?_
  refine RunC.region ?_
  refine RunL.still rfl rfl rfl (Still.loads rfl rfl Tryz.isAgg24 Tryz.sizeOf24 (vs := [_]) rfl (fun _ hs => cells_nth (hs.at (i := 5) rfl) ⟨rfl, trivial⟩)) ?_
  refine RunL.grows rfl rfl rfl (Grows.call (vs := #[_]) rfl rfl Tryz.call12 (fun w hs => gl_Twofold (some ⟨b16, 0, none⟩) _ 1 gOne w (GluAt.of_ownG (q := (some ⟨b16, 0, none⟩, 1)) (g := gOne) (by decide +kernel) (hs.at (i := 6) rfl)) one_ok (by decide))) (fun q hq => ?_)
  refine RunL.still rfl rfl rfl (Still.move rfl rfl) ?_
  refine RunL.still rfl rfl rfl (Still.extractN rfl rfl rfl) ?_
  refine RunL.still rfl rfl rfl (Still.extractN rfl rfl rfl) ?_
  refine RunL.grows rfl rfl rfl (Grows.alloc rfl Tryz.zeroValue24) (fun b9 _ => ?_)
  refine RunL.does0 rfl rfl (Does.store rfl rfl rfl (i := 0) rfl Tryz.sizeOf24 rfl (rfl) rfl) (fun _ _ => ?_)
  refine RunL.conv (fun _ hs => hs.re 0 rfl (show _ = HL.obj b9 (.cells #[.slice q.1 2 q.2] 24 (0, 0)) from rfl)) ?_
  refine RunL.still rfl rfl rfl (Still.assign rfl rfl) ?_
  refine RunL.nil ?_
  refine Ends.then ?_
  refine RunC.seq ?_
  refine RunC.region ?_
  refine RunL.still rfl rfl rfl (Still.loads rfl rfl Tryz.isAgg24 Tryz.sizeOf24 (vs := [_]) rfl (fun _ hs => cells_nth (hs.at (i := 5) rfl) ⟨rfl, trivial⟩)) ?_
  refine RunL.grows rfl rfl rfl (Grows.call (vs := #[_]) rfl rfl Tryz.call13 (fun w hs => gl_Double (some ⟨b22, 0, none⟩) _ 1 gFree w (GluAt.of_ownG (q := (some ⟨b22, 0, none⟩, 1)) (g := gFree) (by decide +kernel) (hs.at (i := 6) rfl)) free_ok (by decide))) (fun r hr => ?_)
  refine RunL.still rfl rfl rfl (Still.move rfl rfl) ?_
  refine RunL.still rfl rfl rfl (Still.extractN rfl rfl rfl) ?_
  refine RunL.still rfl rfl rfl (Still.extractN rfl rfl rfl) ?_
  refine RunL.grows rfl rfl rfl (Grows.alloc rfl Tryz.zeroValue24) (fun b11 _ => ?_)
  refine RunL.does0 rfl rfl (Does.store rfl rfl rfl (i := 0) rfl Tryz.sizeOf24 rfl (rfl) rfl) (fun _ _ => ?_)
  refine RunL.conv (fun _ hs => hs.re 0 rfl (show _ = HL.obj b11 (.cells #[.slice r.1 2 r.2] 24 (0, 0)) from rfl)) ?_
  refine RunL.still rfl rfl rfl (Still.assign rfl rfl) ?_
  refine RunL.nil ?_
  refine Ends.then ?_
  refine RunC.seq ?_
  refine RunC.seq ?_
  refine RunC.region ?_
  refine RunL.still rfl rfl rfl (Still.move rfl rfl) ?_
  refine RunL.still rfl rfl rfl (Still.neq rfl rfl rfl) ?_
  refine RunL.again (t := 54) (u := .bool false) rfl (rfl) ?_
  refine RunL.still rfl rfl rfl (Still.move rfl rfl) ?_
  refine RunL.still rfl rfl rfl (Still.move rfl rfl) ?_
  refine RunL.still rfl rfl rfl (Still.neq rfl rfl rfl) ?_
  refine RunL.again (t := 57) (u := .bool false) rfl (rfl) ?_
  refine RunL.still rfl rfl rfl (Still.pickF rfl rfl rfl) ?_
  refine RunL.still rfl rfl rfl (Still.move rfl rfl) ?_
  refine RunL.still rfl rfl rfl (Still.move rfl rfl) ?_
  refine RunL.still rfl rfl rfl (Still.neq rfl rfl rfl) ?_
  refine RunL.again (t := 61) (u := .bool false) rfl (rfl) ?_
  refine RunL.still rfl rfl rfl (Still.pickF rfl rfl rfl) ?_
  refine RunL.still rfl rfl rfl (Still.move rfl rfl) ?_
  refine RunL.still rfl rfl rfl (Still.move rfl rfl) ?_
  refine RunL.still rfl rfl rfl (Still.neq rfl rfl rfl) ?_
  refine RunL.again (t := 65) (u := .bool false) rfl (rfl) ?_
  refine RunL.still rfl rfl rfl (Still.pickF rfl rfl rfl) ?_
  refine RunL.still rfl rfl rfl (Still.move rfl rfl) ?_
  refine RunL.still rfl rfl rfl (Still.move rfl rfl) ?_
  refine RunL.still rfl rfl rfl (Still.neqStrD rfl rfl rfl) ?_
  refine RunL.again (t := 69) (u := .bool false) rfl (by rfl) ?_
  refine RunL.still rfl rfl rfl (Still.pickF rfl rfl rfl) ?_
  refine RunL.still rfl rfl rfl (Still.move rfl rfl) ?_
  refine RunL.still rfl rfl rfl (Still.move rfl rfl) ?_
  refine RunL.still rfl rfl rfl (Still.not rfl rfl) ?_
  refine RunL.again (t := 73) (u := .bool false) rfl (rfl) ?_
  refine RunL.still rfl rfl rfl (Still.pickF rfl rfl rfl) ?_
  refine RunL.still rfl rfl rfl (Still.move rfl rfl) ?_
  refine RunL.still rfl rfl rfl (Still.move rfl rfl) ?_
  refine RunL.grows rfl rfl rfl (Grows.slice1 rfl rfl Tryz.underlying36 Tryz.sizeOf3 rfl Tryz.zeroValue3 (by decide)) (fun b77 _ => ?_)
  refine RunL.conv (fun _ hs => Sym.obj_own (k := 1) (n := 1) hs rfl (by omega)) ?_
  refine RunL.grows rfl rfl rfl (Grows.call (vs := #[_, _]) rfl rfl Tryz.call31 (fun w hs => rf_SameInts (.slice (some ⟨b39, 0, none⟩) 1 1) _ [1] [1] w (own_shape (hs.own (i := 5) rfl)) (own_all (hs.own (i := 5) rfl)) (by decide) (own_shape (hs.own (i := 0) rfl)) (own_all (hs.own (i := 0) rfl)) (by decide))) (fun _ _ => ?_)
  refine RunL.still rfl rfl rfl (Still.not rfl rfl) ?_
  refine RunL.again (t := 79) (u := .bool false) rfl (by rfl) ?_
  refine RunL.still rfl rfl rfl (Still.pickF rfl rfl rfl) ?_
  refine RunL.nil ?_
  refine Ends.then ?_
  refine RunC.cond_false rfl ?_
  refine RunC.skip ?_
  refine Ends.then ?_
  refine RunC.seq ?_
  refine RunC.region ?_
  refine RunL.still rfl rfl rfl (Still.loads rfl rfl Tryz.isAgg24 Tryz.sizeOf24 (vs := [_]) rfl (fun _ hs => cells_nth (hs.at (i := 3) rfl) ⟨rfl, trivial⟩)) ?_
  refine RunL.grows rfl rfl rfl (Grows.call (vs := #[_]) rfl rfl Tryz.call26 (fun w hs => gl_Text_one (twoG gOne) txtTwo q.1 _ q.2 w (GluAt.of_ownG (q := q) (g := twoG gOne) (by decide +kernel) (hs.at (i := 4) rfl)) two_ok two_text (he.sym hs))) (fun _ _ => ?_)
  refine RunL.still rfl rfl rfl (Still.move rfl rfl) ?_
  refine RunL.still rfl rfl rfl (Still.extractN rfl rfl rfl) ?_
  refine RunL.still rfl rfl rfl (Still.extractN rfl rfl rfl) ?_
  refine RunL.still rfl rfl rfl (Still.assign rfl rfl) ?_
  refine RunL.still rfl rfl rfl (Still.assign rfl rfl) ?_
  refine RunL.nil ?_
  refine Ends.then ?_
  refine RunC.seq ?_
  refine RunC.region ?_
  refine RunL.still rfl rfl rfl (Still.loads rfl rfl Tryz.isAgg24 Tryz.sizeOf24 (vs := [_]) rfl (fun _ hs => cells_nth (hs.at (i := 1) rfl) ⟨rfl, trivial⟩)) ?_
  refine RunL.grows rfl rfl rfl (Grows.call (vs := #[_]) rfl rfl Tryz.call26 (fun w hs => gl_Text_one (dblG gFree) txtDbl r.1 _ r.2 w (GluAt.of_ownG (q := r) (g := dblG gFree) (by decide +kernel) (hs.at (i := 2) rfl)) dbl_ok dbl_text (he.sym hs))) (fun _ _ => ?_)
  refine RunL.still rfl rfl rfl (Still.move rfl rfl) ?_
  refine RunL.still rfl rfl rfl (Still.extractN rfl rfl rfl) ?_
  refine RunL.still rfl rfl rfl (Still.extractN rfl rfl rfl) ?_
  refine RunL.still rfl rfl rfl (Still.assign rfl rfl) ?_
  refine RunL.still rfl rfl rfl (Still.assign rfl rfl) ?_
  refine RunL.nil ?_
  refine Ends.then ?_
  refine RunC.seq ?_
  refine RunC.region ?_
  refine RunL.still rfl rfl rfl (Still.move rfl rfl) ?_
  refine RunL.grows rfl rfl rfl (Grows.call (vs := #[_]) rfl rfl Tryz.call29 (fun w hs => gl_Parse_one w (he.sym hs))) (fun p hp => ?_)
  refine RunL.still rfl rfl rfl (Still.move rfl rfl) ?_
  refine RunL.still rfl rfl rfl (Still.extractN rfl rfl rfl) ?_
  refine RunL.still rfl rfl rfl (Still.extractN rfl rfl rfl) ?_
  refine RunL.grows rfl rfl rfl (Grows.alloc rfl Tryz.zeroValue24) (fun b15 _ => ?_)
  refine RunL.does0 rfl rfl (Does.store rfl rfl rfl (i := 0) rfl Tryz.sizeOf24 rfl (rfl) rfl) (fun _ _ => ?_)
  refine RunL.conv (fun _ hs => hs.re 0 rfl (show _ = HL.obj b15 (.cells #[.slice p.1 1 p.2] 24 (0, 0)) from rfl)) ?_
  refine RunL.still rfl rfl rfl (Still.assign rfl rfl) ?_
  refine RunL.nil ?_
  refine Ends.then ?_
  refine RunC.seq ?_
  refine RunC.region ?_
  refine RunL.still rfl rfl rfl (Still.move rfl rfl) ?_
  refine RunL.still rfl rfl rfl (Still.eql rfl rfl rfl) ?_
  refine RunL.again (t := 97) (u := .bool true) rfl (rfl) ?_
  refine RunL.still rfl rfl rfl (Still.move rfl rfl) ?_
  refine RunL.still rfl rfl rfl (Still.move rfl rfl) ?_
  refine RunL.still rfl rfl rfl (Still.eql rfl rfl rfl) ?_
  refine RunL.again (t := 100) (u := .bool true) rfl (rfl) ?_
  refine RunL.still rfl rfl rfl (Still.pickT rfl rfl rfl) ?_
  refine RunL.still rfl rfl rfl (Still.move rfl rfl) ?_
  refine RunL.still rfl rfl rfl (Still.move rfl rfl) ?_
  refine RunL.still rfl rfl rfl (Still.eql rfl rfl rfl) ?_
  refine RunL.again (t := 104) (u := .bool true) rfl (rfl) ?_
  refine RunL.still rfl rfl rfl (Still.pickT rfl rfl rfl) ?_
  refine RunL.still rfl rfl rfl (Still.move rfl rfl) ?_
  refine RunL.still rfl rfl rfl (Still.loads rfl rfl Tryz.isAgg24 Tryz.sizeOf24 (vs := [_]) rfl (fun _ hs => cells_nth (hs.at (i := 0) rfl) ⟨rfl, trivial⟩)) ?_
  refine RunL.still rfl rfl rfl (Still.loads rfl rfl Tryz.isAgg24 Tryz.sizeOf24 (vs := [_]) rfl (fun _ hs => cells_nth (hs.at (i := 12) rfl) ⟨rfl, trivial⟩)) ?_
  refine RunL.grows rfl rfl rfl (Grows.call (vs := #[_, _]) rfl rfl Tryz.call27 (fun w hs => gl_Same p.1 _ p.2 gOne (some ⟨b16, 0, none⟩) _ 1 gOne w (GluAt.of_ownG (q := p) (g := gOne) (by decide +kernel) (hs.at (i := 1) rfl)) (GluAt.of_ownG (q := (some ⟨b16, 0, none⟩, 1)) (g := gOne) (by decide +kernel) (hs.at (i := 13) rfl)))) (fun _ _ => ?_)
  refine RunL.again (t := 109) (u := .bool true) rfl (by rfl) ?_
  refine RunL.still rfl rfl rfl (Still.pickT rfl rfl rfl) ?_
  refine RunL.still rfl rfl rfl (Still.move rfl rfl) ?_
  refine RunL.still rfl rfl rfl (Still.move rfl rfl) ?_
  refine RunL.still rfl rfl rfl (Still.eqlStrD rfl rfl rfl) ?_
  refine RunL.again (t := 113) (u := .bool true) rfl (by rfl) ?_
  refine RunL.still rfl rfl rfl (Still.pickT rfl rfl rfl) ?_
  refine RunL.still rfl rfl rfl (Still.move rfl rfl) ?_
  refine RunL.still rfl rfl rfl (Still.move rfl rfl) ?_
  refine RunL.still rfl rfl rfl (Still.eqlStrD rfl rfl rfl) ?_
  refine RunL.again (t := 117) (u := .bool true) rfl (by rfl) ?_
  refine RunL.still rfl rfl rfl (Still.pickT rfl rfl rfl) ?_
  refine RunL.still rfl rfl rfl (Still.move rfl rfl) ?_
  refine RunL.still rfl rfl rfl (Still.loads rfl rfl Tryz.isAgg24 Tryz.sizeOf24 (vs := [_]) rfl (fun _ hs => cells_nth (hs.at (i := 8) rfl) ⟨rfl, trivial⟩)) ?_
  refine RunL.grows rfl rfl rfl (Grows.call (vs := #[_]) rfl rfl Tryz.call14 (fun w hs => gl_Check (some ⟨b30, 0, none⟩) _ 1 gBad w (GluAt.of_ownG (q := (some ⟨b30, 0, none⟩, 1)) (g := gBad) (by decide +kernel) (hs.at (i := 9) rfl)))) (fun _ _ => ?_)
  refine RunL.still rfl rfl rfl (Still.eql rfl rfl rfl) ?_
  refine RunL.again (t := 122) (u := .bool true) rfl (congrArg Value.bool (decide_eq_true (chkG_bad bad_no))) ?_
  refine RunL.still rfl rfl rfl (Still.pickT rfl rfl rfl) ?_
  refine RunL.still rfl rfl rfl (Still.move rfl rfl) ?_
  refine RunL.still rfl rfl rfl (Still.loads rfl rfl Tryz.isAgg24 Tryz.sizeOf24 (vs := [_]) rfl (fun _ hs => cells_nth (hs.at (i := 12) rfl) ⟨rfl, trivial⟩)) ?_
  refine RunL.grows rfl rfl rfl (Grows.call (vs := #[_]) rfl rfl Tryz.call14 (fun w hs => gl_Check (some ⟨b16, 0, none⟩) _ 1 gOne w (GluAt.of_ownG (q := (some ⟨b16, 0, none⟩, 1)) (g := gOne) (by decide +kernel) (hs.at (i := 13) rfl)))) (fun _ _ => ?_)
  refine RunL.still rfl rfl rfl (Still.eql rfl rfl rfl) ?_
  refine RunL.again (t := 127) (u := .bool true) rfl (congrArg Value.bool (decide_eq_true (chkG_ok one_ok))) ?_
  refine RunL.still rfl rfl rfl (Still.pickT rfl rfl rfl) ?_
  refine RunL.still rfl rfl rfl (Still.move rfl rfl) ?_
  refine RunL.still rfl rfl rfl (Still.build_1_1_1_1 (fun x0_0 x1_0 x2_0 x3_0 => .agg #[x0_0, x1_0, x2_0, x3_0]) rfl rfl rfl rfl rfl (fun _ => by kernel_rfl)) ?_
  refine RunL.still rfl rfl rfl (Still.build_1_1_1_1 (fun x0_0 x1_0 x2_0 x3_0 => .agg #[x0_0, x1_0, x2_0, x3_0]) rfl rfl rfl rfl rfl (fun _ => by kernel_rfl)) ?_
  refine RunL.grows rfl rfl rfl (Grows.call (vs := #[_, _]) rfl rfl Tryz.call41 (fun w hs => gl_Compose ⟨1, 2, 3, 0⟩ ⟨1, 0, 2, 3⟩ w)) (fun _ _ => ?_)
  refine RunL.still rfl rfl rfl (Still.build_1_1_1_1 (fun x0_0 x1_0 x2_0 x3_0 => .agg #[x0_0, x1_0, x2_0, x3_0]) rfl rfl rfl rfl rfl (fun _ => by kernel_rfl)) ?_
  refine RunL.still rfl rfl rfl (Still.eqlAgg rfl rfl rfl Tryz.eqGuardType32 (fun _ => eqP _ _ _ _ _ _ _ _ _ _)) ?_
  refine RunL.again (t := 134) (u := .bool true) rfl (congrArg Value.bool (by decide +kernel)) ?_
  refine RunL.still rfl rfl rfl (Still.pickT rfl rfl rfl) ?_
  refine RunL.still rfl rfl rfl (Still.move rfl rfl) ?_
  refine RunL.still rfl rfl rfl (Still.build_1_1_1_1 (fun x0_0 x1_0 x2_0 x3_0 => .agg #[x0_0, x1_0, x2_0, x3_0]) rfl rfl rfl rfl rfl (fun _ => by kernel_rfl)) ?_
  refine RunL.grows rfl rfl rfl (Grows.call (vs := #[_]) rfl rfl Tryz.call42 (fun w hs => gl_Sign ⟨1, 0, 2, 3⟩ w)) (fun _ _ => ?_)
  refine RunL.still rfl rfl rfl (Still.eql rfl rfl rfl) ?_
  refine RunL.again (t := 139) (u := .bool true) rfl (congrArg Value.bool (by decide +kernel)) ?_
  refine RunL.still rfl rfl rfl (Still.pickT rfl rfl rfl) ?_
  refine RunL.still rfl rfl rfl (Still.move rfl rfl) ?_
  refine RunL.still rfl rfl rfl (Still.build_1_1_1_1 (fun x0_0 x1_0 x2_0 x3_0 => .agg #[x0_0, x1_0, x2_0, x3_0]) rfl rfl rfl rfl rfl (fun _ => by kernel_rfl)) ?_
  refine RunL.grows rfl rfl rfl (Grows.call (vs := #[_]) rfl rfl Tryz.call42 (fun w hs => gl_Sign ⟨1, 2, 0, 3⟩ w)) (fun _ _ => ?_)
  refine RunL.still rfl rfl rfl (Still.eql rfl rfl rfl) ?_
  refine RunL.again (t := 144) (u := .bool true) rfl (congrArg Value.bool (by decide +kernel)) ?_
  refine RunL.still rfl rfl rfl (Still.pickT rfl rfl rfl) ?_
  refine RunL.still rfl rfl rfl (Still.move rfl rfl) ?_
  refine RunL.still rfl rfl rfl (Still.build_1_1_1_1 (fun x0_0 x1_0 x2_0 x3_0 => .agg #[x0_0, x1_0, x2_0, x3_0]) rfl rfl rfl rfl rfl (fun _ => by kernel_rfl)) ?_
  refine RunL.grows rfl rfl rfl (Grows.call (vs := #[_]) rfl rfl Tryz.call43 (fun w hs => gl_Valid ⟨1, 2, 0, 3⟩ w)) (fun _ _ => ?_)
  refine RunL.again (t := 148) (u := .bool true) rfl (congrArg Value.bool (by decide +kernel)) ?_
  refine RunL.still rfl rfl rfl (Still.pickT rfl rfl rfl) ?_
  refine RunL.still rfl rfl rfl (Still.assign rfl rfl) ?_
  refine RunL.nil ?_
  refine Ends.then ?_
  refine RunC.ret ?_
  refine Ends.leave (.inl rfl) (fun _ _ ok => results1 Tryz.results9 (Holds.tmp rfl) ok) (fun w1 hs => ?_)
  exact Ret.intro () trivial rfl (HSub.nil _) hs

end Go.Proofs
/- The statement GlueMakes: the walk. -/
namespace Go.Proofs
open Go Go.V
set_option maxRecDepth 20000
end Go.Proofs
/- A part of a gluing, renumbered by a map. -/
namespace Go.V
open Go
def numV (l : List Int) (k : Int) (u : Int) : Int := if l.getD u.toNat 0 = k then rankP l k u.toNat else 0
def numM (l : List Int) (k : Int) (x : Fc) : Fc := if 0 ≤ x.tet then ⟨numV l k x.tet, x.p⟩ else x
def mpTo (l : List Int) (k : Int) : Nat → List (Int × Value)
  | 0 => []
  | t + 1 => if l.getD t 0 = k then mpTo l k t ++ [((t : Int), iv (rankP l k t))] else mpTo l k t
theorem rankP_succ {l : List Int} {k : Int} {t : Nat} (ht : t < l.length) : rankP l k (t + 1) = rankP l k t + if l.getD t 0 = k then 1 else 0 := by
  have h := getD_get' ht
  generalize l.getD t 0 = y at h ⊢
  rw [rankP, List.take_add_one, h, List.filter_append, List.length_append, rankP]
  congr 1
  by_cases e : y = k <;> simp [e]
theorem mpTo_len {l : List Int} {k : Int} : ∀ t, t ≤ l.length → (mpTo l k t).length = rankP l k t
  | 0, _ => by simp [mpTo, rankP]
  | t + 1, ht => by
    rw [mpTo, rankP_succ (by omega), ← mpTo_len t (by omega)]
    split <;> simp
theorem mget_append {κ : Type} [DecidableEq κ] (l : List (κ × Value)) (k k' : κ) (v : Value) (h : mget l k = none) : mget (l ++ [(k, v)]) k' = if k = k' then some v else mget l k' := by
  rw [← mput_new h, mget_mput]
theorem mpTo_none {l : List Int} {k : Int} : ∀ t u, t ≤ u → mget (mpTo l k t) (u : Int) = none
  | 0, _, _ => rfl
  | t + 1, u, h => by
    rw [mpTo]
    split
    · rw [mget_append _ _ _ _ (mpTo_none t t (Nat.le_refl t)), if_neg (by omega)]
      exact mpTo_none t u (by omega)
    · exact mpTo_none t u (by omega)
theorem mpTo_get {l : List Int} {k : Int} : ∀ t u, u < t → mget (mpTo l k t) (u : Int) = if l.getD u 0 = k then some (iv (rankP l k u)) else none
  | 0, _, h => absurd h (Nat.not_lt_zero _)
  | t + 1, u, h => by
    rw [mpTo]
    rcases Nat.lt_or_ge u t with h1 | h1
    · have ih := mpTo_get (l := l) (k := k) t u h1
      split
      · rw [mget_append _ _ _ _ (mpTo_none t t (Nat.le_refl t)), if_neg (by omega)]; exact ih
      · exact ih
    · obtain rfl : u = t := by omega
      by_cases e : l.getD u 0 = k
      · rw [if_pos e, if_pos e, mget_append _ _ _ _ (mpTo_none u u (Nat.le_refl u)), if_pos rfl]
      · rw [if_neg e, if_neg e]; exact mpTo_none u u (Nat.le_refl u)
theorem mpTo_put {l : List Int} {k : Int} {t : Nat} (ht : t < l.length) (h : l.getD t 0 = k) : mput (mpTo l k t) (t : Int) (.int .i64 ((mpTo l k t).length : Nat)) = mpTo l k (t + 1) := by
  rw [mput_new (mpTo_none t t (Nat.le_refl t)), mpTo_len t (by omega), mpTo, if_pos h]
theorem mpTo_skip {l : List Int} {k : Int} {t : Nat} (h : ¬ l.getD t 0 = k) : mpTo l k (t + 1) = mpTo l k t := by rw [mpTo, if_neg h]
theorem mpTo_val {l : List Int} {k : Int} {n : Nat} {u : Int} (h0 : 0 ≤ u) (h : u < n) : (mget (mpTo l k n) u).getD (.int .i64 0) = iv (numV l k u) := by
  have e := mpTo_get (l := l) (k := k) n u.toNat (by omega)
  rw [show ((u.toNat : Nat) : Int) = u by omega] at e
  rw [e, numV]
  split <;> rfl
def partL (g : Glu) (l : List Int) (k : Int) : Nat → Glu
  | 0 => []
  | t + 1 => if l.getD t 0 = k then partL g l k t ++ [mapF (tAt g t) (numM l k)] else partL g l k t
def partM (g : Glu) (k : Int) : Glu := partL g (partsOf g) k g.length
theorem partL_len {g : Glu} {l : List Int} {k : Int} : ∀ t, (partL g l k t).length ≤ t
  | 0 => Nat.le_refl _
  | t + 1 => by
    have := partL_len (g := g) (l := l) (k := k) t
    rw [partL]; split
    · rw [List.length_append]; simp; omega
    · omega
theorem cellsAt_ttA (t : Tt) : CellsAt (ttA t).toList 0 [iv t.f0.tet, iv t.f0.p.a0, iv t.f0.p.a1, iv t.f0.p.a2, iv t.f0.p.a3, iv t.f1.tet, iv t.f1.p.a0, iv t.f1.p.a1, iv t.f1.p.a2, iv t.f1.p.a3, iv t.f2.tet, iv t.f2.p.a0, iv t.f2.p.a1, iv t.f2.p.a2, iv t.f2.p.a3, iv t.f3.tet, iv t.f3.p.a0, iv t.f3.p.a1, iv t.f3.p.a2, iv t.f3.p.a3] :=
  ⟨rfl, rfl, rfl, rfl, rfl, rfl, rfl, rfl, rfl, rfl, rfl, rfl, rfl, rfl, rfl, rfl, rfl, rfl, rfl, rfl, trivial⟩
theorem partL_yes {g : Glu} {l : List Int} {k : Int} {t : Nat} (h : l.getD t 0 = k) : partL g l k (t + 1) = partL g l k t ++ [mapF (tAt g t) (numM l k)] := by rw [partL, if_pos h]
theorem partL_no {g : Glu} {l : List Int} {k : Int} {t : Nat} (h : ¬ l.getD t 0 = k) : partL g l k (t + 1) = partL g l k t := by rw [partL, if_neg h]
theorem numM_pos {l : List Int} {k : Int} {x : Fc} (h : 0 ≤ x.tet) : numM l k x = ⟨numV l k x.tet, x.p⟩ := if_pos h
theorem numM_neg {l : List Int} {k : Int} {x : Fc} (h : ¬ 0 ≤ x.tet) : numM l k x = x := if_neg h
end Go.V
/- A part of a gluing: contracts of the program. -/
namespace Go.Proofs
open Go Go.V
set_option maxRecDepth 20000
theorem mk3 : MKey Tryz.prog 3 encI := MKey.int Tryz.underlying3

theorem gl_Part (base : Option Addr) (A : Addr) (cap : Nat) (g : Glu) (k : Int) (w : World) (hg : GluAt w base A g) (hok : okG g = true) (hk : 0 ≤ k ∧ k < partsN g) (hpl : (partsOf g).length = g.length) : Gives Tryz.prog 33 #[gluV base cap g, iv k] w Nil (fun q : Option Addr × Nat => OKB q (partM g k).length) (fun q => .tuple #[gluV q.1 q.2 (partM g k), iv 0]) (fun q => [ownG q (partM g k)]) := by
  have hlen := hg.len
  have h1000 := okG_len hok
  refine fn_of_run (S := Nil) (args := [gluV base cap g, iv k]) (n := 92) (L := []) Tryz.func33 rfl Tryz.ntmps33 (Nat.le_of_ble_eq_true rfl) (Sym.nil _ _) ?_
  change RunC _ _ _ [(0, _), (1, _)] _
  refine RunC.seq ?_
  refine RunC.region ?_
  refine RunL.grows rfl rfl rfl (Grows.box rfl rfl) (fun b2 _ => ?_)
  refine RunL.grows rfl rfl rfl (Grows.alloc rfl Tryz.zeroValue24) (fun b4 _ => ?_)
  refine RunL.still rfl rfl rfl (Still.assign rfl rfl) ?_
  refine RunL.nil ?_
  refine Ends.then ?_
  refine RunC.seq ?_
  refine RunC.seq ?_
  refine RunC.region ?_
  refine RunL.still rfl rfl rfl (Still.loads rfl rfl Tryz.isAgg24 Tryz.sizeOf24 (vs := [_]) rfl (fun _ hs => cells_nth (hs.at (i := 1) rfl) ⟨rfl, trivial⟩)) ?_
  refine RunL.grows rfl rfl rfl (Grows.call (vs := #[_]) rfl rfl Tryz.call14 (fun w hs => gl_Check base A cap g w (hg.sym hs))) (fun _ _ => ?_)
  refine RunL.still rfl rfl rfl (Still.assign rfl rfl) ?_
  refine RunL.nil ?_
  refine Ends.then ?_
  refine RunC.seq ?_
  refine RunC.region ?_
  refine RunL.still rfl rfl rfl (Still.move rfl rfl) ?_
  refine RunL.still rfl rfl rfl (Still.neq rfl rfl rfl) ?_
  refine RunL.nil ?_
  refine Ends.then ?_
  refine RunC.cond rfl (fun h21 => ?_) (fun h21 => ?_)
  · have h21 := of_decide_eq_true h21
    exact absurd (chkG_ok hok) h21
  · have h21 := of_decide_eq_false h21
    refine RunC.skip ?_
    refine Ends.then ?_
    refine RunC.seq ?_
    refine RunC.region ?_
    refine RunL.still rfl rfl rfl (Still.loads rfl rfl Tryz.isAgg24 Tryz.sizeOf24 (vs := [_]) rfl (fun _ hs => cells_nth (hs.at (i := 1) rfl) ⟨rfl, trivial⟩)) ?_
    refine RunL.grows rfl rfl rfl (Grows.call (vs := #[_]) rfl rfl Tryz.call49 (fun w hs => gl_parts base A cap g w (hg.sym hs) hok)) (fun pb _ => ?_)
    refine RunL.still rfl rfl rfl (Still.move rfl rfl) ?_
    refine RunL.still rfl rfl rfl (Still.extractN rfl rfl rfl) ?_
    refine RunL.still rfl rfl rfl (Still.extractN rfl rfl rfl) ?_
    refine RunL.still rfl rfl rfl (Still.assign rfl rfl) ?_
    refine RunL.still rfl rfl rfl (Still.assign rfl rfl) ?_
    refine RunL.nil ?_
    refine Ends.then ?_
    refine RunC.seq ?_
    refine RunC.seq ?_
    refine RunC.region ?_
    refine RunL.still rfl rfl rfl (Still.move rfl rfl) ?_
    refine RunL.still rfl rfl rfl (Still.lss rfl rfl rfl) ?_
    refine RunL.still rfl rfl rfl (Still.move rfl rfl) ?_
    refine RunL.split (t := 31) rfl (fun h31 => ?_) (fun h31 => ?_)
    · have h31 := of_decide_eq_true h31
      omega
    · have h31 := of_decide_eq_false h31
      refine RunL.still rfl rfl rfl (Still.move rfl rfl) ?_
      refine RunL.still rfl rfl rfl (Still.move rfl rfl) ?_
      refine RunL.still rfl rfl rfl (Still.geq rfl rfl rfl) ?_
      refine RunL.still rfl rfl rfl (Still.pickF rfl rfl rfl) ?_
      refine RunL.nil ?_
      refine Ends.then ?_
      refine RunC.cond rfl (fun h35 => ?_) (fun h35 => ?_)
      · have h35 := of_decide_eq_true h35
        omega
      · have h35 := of_decide_eq_false h35
        refine RunC.skip ?_
        refine Ends.then ?_
        refine RunC.seq ?_
        refine RunC.region ?_
        refine RunL.grows rfl rfl rfl (Grows.makeMapK encI rfl) (fun b37 _ => ?_)
        refine RunL.still rfl rfl rfl (Still.assign rfl rfl) ?_
        refine RunL.nil ?_
        refine Ends.then ?_
        refine RunC.seq ?_
        refine RunC.seq ?_
        refine RunC.region ?_
        refine RunL.still rfl rfl rfl (Still.move rfl rfl) ?_
        refine RunL.still rfl rfl rfl (Still.lenOwn rfl rfl Tryz.underlying36 (fun _ hs => hs.own (i := 1) rfl)) ?_
        refine RunL.still rfl rfl rfl (Still.move rfl rfl) ?_
        refine RunL.nil ?_
        refine Ends.then ?_
        refine RunC.block ?_
        refine RunC.loop2 (γ := Nat) (keep := [(1, _), (2, _), (4, _), (7, _), (9, _), (38, _), (39, _)]) (hkeep := [_, _, _]) (fun t => t ≤ g.length) (fun t => g.length - t) (fun t => [(40, iv t)]) (fun t => [HL.mp b37 encI (mpTo (partsOf g) k t)]) 0 (by omega) (Fr.Sub.cons rfl (Fr.Sub.nil _)) (Fr.Sub.cons rfl (Fr.Sub.cons rfl (Fr.Sub.cons rfl (Fr.Sub.cons rfl (Fr.Sub.cons rfl (Fr.Sub.cons rfl (Fr.Sub.cons rfl (Fr.Sub.nil _)))))))) (HSub.pick 0 rfl (HSub.pick 0 rfl (HSub.pick 0 rfl (HSub.pick 0 rfl (HSub.nil _))))) ?_
        rintro t ht
        refine RunC.seq ?_
        refine RunC.region ?_
        refine RunL.still rfl rfl rfl (Still.lss rfl rfl rfl) ?_
        refine RunL.nil ?_
        refine Ends.then ?_
        refine RunC.seq ?_
        refine RunC.cond rfl (fun h41 => ?_) (fun h41 => ?_)
        · have h41 := of_decide_eq_true h41
          have htN : t < g.length := by omega
          refine RunC.skip ?_
          refine Ends.then ?_
          refine RunC.seq ?_
          refine RunC.block ?_
          refine RunC.seq ?_
          refine RunC.region ?_
          refine RunL.still rfl rfl rfl (Still.move rfl rfl) ?_
          refine RunL.still rfl rfl rfl (Still.indexOwn rfl rfl rfl Tryz.underlying36 Tryz.sizeOf3 (fun _ hs => hs.own (i := 1) rfl) (by omega)) ?_
          refine RunL.still rfl rfl rfl (Still.load rfl rfl Tryz.isAgg3 (fun w hs => own_at (hs.own (i := 1) rfl) (ints_get (getD_get' (by omega))))) ?_
          refine RunL.still rfl rfl rfl (Still.assign rfl rfl) ?_
          refine RunL.still rfl rfl rfl (Still.assign rfl rfl) ?_
          refine RunL.nil ?_
          refine Ends.then ?_
          refine RunC.seq ?_
          refine RunC.region ?_
          refine RunL.still rfl rfl rfl (Still.move rfl rfl) ?_
          refine RunL.still rfl rfl rfl (Still.move rfl rfl) ?_
          refine RunL.still rfl rfl rfl (Still.eql rfl rfl rfl) ?_
          refine RunL.nil ?_
          refine Ends.then ?_
          refine RunC.cond rfl (fun h47 => ?_) (fun h47 => ?_)
          · have h47 := of_decide_eq_true h47
            refine RunC.region ?_
            refine RunL.still rfl rfl rfl (Still.move rfl rfl) ?_
            refine RunL.still rfl rfl rfl (Still.move rfl rfl) ?_
            refine RunL.still rfl rfl rfl (Still.move rfl rfl) ?_
            refine RunL.still rfl rfl rfl (Still.lenMap rfl rfl (i := 0) rfl Tryz.underlying96) ?_
            refine RunL.does0 rfl rfl (Does.mapUpdate (k := (t : Int)) rfl rfl rfl rfl (i := 0) rfl Tryz.underlying96 mk3) (fun _ _ => ?_)
            refine RunL.nil ?_
            refine Ends.block ?_
            refine Ends.then ?_
            refine RunC.region ?_
            refine RunL.still rfl rfl rfl (Still.add rfl rfl rfl (fits64 (by omega) (by omega))) ?_
            refine RunL.still rfl rfl rfl (Still.move rfl rfl) ?_
            refine RunL.nil ?_
            refine Ends.again (t + 1) ?_ ?_ (Fr.Sub.app ?_ ?_) ?_
            · show _; omega
            · show _ < _; omega
            · exact Fr.Sub.cons rfl (Fr.Sub.nil _)
            · exact Fr.Sub.cons rfl (Fr.Sub.cons rfl (Fr.Sub.cons rfl (Fr.Sub.cons rfl (Fr.Sub.cons rfl (Fr.Sub.cons rfl (Fr.Sub.cons rfl (Fr.Sub.nil _)))))))
            · exact HSub.pick 0 (congrArg (fun z => some (HL.mp b37 encI z)) (mpTo_put (by omega) h47)) (HSub.pick 0 rfl (HSub.pick 0 rfl (HSub.pick 0 rfl (HSub.nil _))))
          · have h47 := of_decide_eq_false h47
            refine RunC.skip ?_
            refine Ends.block ?_
            refine Ends.then ?_
            refine RunC.region ?_
            refine RunL.still rfl rfl rfl (Still.add rfl rfl rfl (fits64 (by omega) (by omega))) ?_
            refine RunL.still rfl rfl rfl (Still.move rfl rfl) ?_
            refine RunL.nil ?_
            refine Ends.again (t + 1) ?_ ?_ (Fr.Sub.app ?_ ?_) ?_
            · show _; omega
            · show _ < _; omega
            · exact Fr.Sub.cons rfl (Fr.Sub.nil _)
            · exact Fr.Sub.cons rfl (Fr.Sub.cons rfl (Fr.Sub.cons rfl (Fr.Sub.cons rfl (Fr.Sub.cons rfl (Fr.Sub.cons rfl (Fr.Sub.cons rfl (Fr.Sub.nil _)))))))
            · exact HSub.pick 0 (congrArg (fun z => some (HL.mp b37 encI z)) (mpTo_skip h47).symm) (HSub.pick 0 rfl (HSub.pick 0 rfl (HSub.pick 0 rfl (HSub.nil _))))
        · have h41 := of_decide_eq_false h41
          obtain rfl : t = g.length := by omega
          refine RunC.exit ?_
          refine Ends.then_exit ?_
          refine Ends.then_exit ?_
          refine Ends.block_exit ?_
          refine Ends.then ?_
          refine RunC.seq ?_
          refine RunC.region ?_
          refine RunL.grows rfl rfl rfl (Grows.alloc rfl Tryz.zeroValue24) (fun b12 _ => ?_)
          refine RunL.own_nil 35 20 ?_
          refine RunL.nil ?_
          refine Ends.then ?_
          refine RunC.seq ?_
          refine RunC.seq ?_
          refine RunC.region ?_
          refine RunL.still rfl rfl rfl (Still.move rfl rfl) ?_
          refine RunL.still rfl rfl rfl (Still.lenOwn rfl rfl Tryz.underlying36 (fun _ hs => hs.own (i := 3) rfl)) ?_
          refine RunL.still rfl rfl rfl (Still.move rfl rfl) ?_
          refine RunL.nil ?_
          refine Ends.then ?_
          refine RunC.block ?_
          refine RunC.loop2 (γ := Value × Nat) (keep := [(1, _), (2, _), (4, _), (9, _), (12, _), (53, _), (54, _)]) (hkeep := [_, _, _, _]) (fun (v, t) => t ≤ g.length) (fun (v, t) => g.length - t) (fun (v, t) => [(55, iv t)]) (fun (v, t) => [HL.obj b12 (.cells #[v] 24 (0, 0)), HL.own 35 20 v (partL g (partsOf g) k t).length ((partL g (partsOf g) k t).flatMap encT)]) (.slice none 0 0, 0) (by omega) (Fr.Sub.cons rfl (Fr.Sub.nil _)) (Fr.Sub.cons rfl (Fr.Sub.cons rfl (Fr.Sub.cons rfl (Fr.Sub.cons rfl (Fr.Sub.cons rfl (Fr.Sub.cons rfl (Fr.Sub.cons rfl (Fr.Sub.nil _)))))))) (HSub.pick 1 rfl (HSub.pick 0 rfl (HSub.pick 0 rfl (HSub.pick 0 rfl (HSub.pick 0 rfl (HSub.pick 0 rfl (HSub.nil _))))))) ?_
          rintro ⟨v, t⟩ ht
          have ht : t ≤ g.length := ht
          refine RunC.seq ?_
          refine RunC.region ?_
          refine RunL.still rfl rfl rfl (Still.lss rfl rfl rfl) ?_
          refine RunL.nil ?_
          refine Ends.then ?_
          refine RunC.seq ?_
          refine RunC.cond rfl (fun h56 => ?_) (fun h56 => ?_)
          · have h56 := of_decide_eq_true h56
            have htN : t < g.length := by omega
            obtain ⟨x, hx⟩ := get_of_lt (l := g) (i := t) htN
            have hxt : tAt g t = x := tAt_eq hx
            refine RunC.skip ?_
            refine Ends.then ?_
            refine RunC.seq ?_
            refine RunC.block ?_
            refine RunC.seq ?_
            refine RunC.region ?_
            refine RunL.still rfl rfl rfl (Still.move rfl rfl) ?_
            refine RunL.still rfl rfl rfl (Still.indexOwn rfl rfl rfl Tryz.underlying36 Tryz.sizeOf3 (fun _ hs => hs.own (i := 3) rfl) (by omega)) ?_
            refine RunL.still rfl rfl rfl (Still.load rfl rfl Tryz.isAgg3 (fun w hs => own_at (hs.own (i := 3) rfl) (ints_get (getD_get' (by omega))))) ?_
            refine RunL.still rfl rfl rfl (Still.assign rfl rfl) ?_
            refine RunL.still rfl rfl rfl (Still.assign rfl rfl) ?_
            refine RunL.nil ?_
            refine Ends.then ?_
            refine RunC.seq ?_
            refine RunC.seq ?_
            refine RunC.region ?_
            refine RunL.still rfl rfl rfl (Still.move rfl rfl) ?_
            refine RunL.still rfl rfl rfl (Still.move rfl rfl) ?_
            refine RunL.still rfl rfl rfl (Still.neq rfl rfl rfl) ?_
            refine RunL.nil ?_
            refine Ends.then ?_
            refine RunC.cond rfl (fun h62 => ?_) (fun h62 => ?_)
            · have h62 := of_decide_eq_true h62
              refine RunC.exit ?_
              refine Ends.then_exit ?_
              refine Ends.block_exit ?_
              refine Ends.then ?_
              refine RunC.region ?_
              refine RunL.still rfl rfl rfl (Still.add rfl rfl rfl (fits64 (by omega) (by omega))) ?_
              refine RunL.still rfl rfl rfl (Still.move rfl rfl) ?_
              refine RunL.nil ?_
              refine Ends.again (v, t + 1) ?_ ?_ (Fr.Sub.app ?_ ?_) ?_
              · show t + 1 ≤ _; omega
              · show _ - (t + 1) < _ - t; omega
              · exact Fr.Sub.cons rfl (Fr.Sub.nil _)
              · exact Fr.Sub.cons rfl (Fr.Sub.cons rfl (Fr.Sub.cons rfl (Fr.Sub.cons rfl (Fr.Sub.cons rfl (Fr.Sub.cons rfl (Fr.Sub.cons rfl (Fr.Sub.nil _)))))))
              · exact HSub.pick 0 rfl (HSub.pick 0 (by rw [partL_no h62]; rfl) (HSub.pick 0 rfl (HSub.pick 0 rfl (HSub.pick 0 rfl (HSub.pick 0 rfl (HSub.nil _))))))
            · have h62 := of_decide_eq_false h62
              refine RunC.skip ?_
              refine Ends.then ?_
              refine RunC.seq ?_
              refine RunC.region ?_
              refine RunL.still rfl rfl rfl (Still.fieldAddrL (off := 0) (off' := 0) rfl rfl Tryz.underlying24 rfl Tryz.sizeOf22 rfl) ?_
              refine RunL.still rfl rfl rfl (Still.load rfl rfl Tryz.isAgg22 (fun _ hs => cell_nth (hs.at (i := 5) rfl) rfl)) ?_
              refine RunL.still rfl rfl rfl (Still.move rfl rfl) ?_
              refine RunL.still rfl rfl rfl (Still.indexSliceN rfl rfl rfl Tryz.underlying22 Tryz.sizeOf35 (hg.base (by omega)) (by omega)) ?_
              refine RunL.still rfl rfl rfl (Still.loads rfl rfl Tryz.isAgg35 Tryz.sizeOf35 (vs := [iv x.f0.tet, iv x.f0.p.a0, iv x.f0.p.a1, iv x.f0.p.a2, iv x.f0.p.a3, iv x.f1.tet, iv x.f1.p.a0, iv x.f1.p.a1, iv x.f1.p.a2, iv x.f1.p.a3, iv x.f2.tet, iv x.f2.p.a0, iv x.f2.p.a1, iv x.f2.p.a2, iv x.f2.p.a3, iv x.f3.tet, iv x.f3.p.a0, iv x.f3.p.a1, iv x.f3.p.a2, iv x.f3.p.a3]) rfl (fun _ hs => (hg.sym hs).cell t x hx)) ?_
              refine RunL.grows rfl rfl rfl (Grows.alloc rfl Tryz.zeroValue35) (fun b15 _ => ?_)
              refine RunL.does0 rfl rfl (Does.store rfl rfl rfl (i := 0) rfl Tryz.sizeOf35 rfl (rfl) rfl) (fun _ _ => ?_)
              refine RunL.conv (fun _ hs => hs.re 0 rfl (show _ = HL.obj b15 (.cells (ttA x) 35 (0, 0)) from congrArg (fun z => HL.obj b15 (.cells z 35 (0, 0))) (putT x))) ?_
              refine RunL.nil ?_
              refine Ends.then ?_
              refine RunC.seq ?_
              refine RunC.seq ?_
              refine RunC.region ?_
              refine RunL.still rfl rfl rfl (Still.loads rfl rfl Tryz.isAgg35 Tryz.sizeOf35 (vs := [iv x.f0.tet, iv x.f0.p.a0, iv x.f0.p.a1, iv x.f0.p.a2, iv x.f0.p.a3, iv x.f1.tet, iv x.f1.p.a0, iv x.f1.p.a1, iv x.f1.p.a2, iv x.f1.p.a3, iv x.f2.tet, iv x.f2.p.a0, iv x.f2.p.a1, iv x.f2.p.a2, iv x.f2.p.a3, iv x.f3.tet, iv x.f3.p.a0, iv x.f3.p.a1, iv x.f3.p.a2, iv x.f3.p.a3]) rfl (fun _ hs => cells_nth (hs.at (i := 0) rfl) (cellsAt_ttA x))) ?_
              refine RunL.still rfl rfl rfl (Still.move rfl rfl) ?_
              refine RunL.nil ?_
              refine Ends.then ?_
              refine RunC.block ?_
              refine RunC.loop2 (γ := Nat) (keep := [(1, _), (2, _), (4, _), (9, _), (12, _), (15, _), (53, _), (54, _), (55, _), (68, _)]) (hkeep := [_, _, _, _, _, _]) (fun f => f ≤ 4) (fun f => 4 - f) (fun f => [(69, iv f)]) (fun f => [HL.obj b15 (.cells (ttA (chTo (numM (partsOf g) k) x f)) 35 (0, 0))]) 0 (by omega) (Fr.Sub.cons rfl (Fr.Sub.nil _)) (Fr.Sub.cons rfl (Fr.Sub.cons rfl (Fr.Sub.cons rfl (Fr.Sub.cons rfl (Fr.Sub.cons rfl (Fr.Sub.cons rfl (Fr.Sub.cons rfl (Fr.Sub.cons rfl (Fr.Sub.cons rfl (Fr.Sub.cons rfl (Fr.Sub.nil _))))))))))) (HSub.pick 0 rfl (HSub.pick 0 rfl (HSub.pick 0 rfl (HSub.pick 0 rfl (HSub.pick 0 rfl (HSub.pick 0 rfl (HSub.pick 0 rfl (HSub.nil _)))))))) ?_
              rintro f hf
              refine RunC.seq ?_
              refine RunC.region ?_
              refine RunL.still rfl rfl rfl (Still.lss rfl rfl rfl) ?_
              refine RunL.nil ?_
              refine Ends.then ?_
              refine RunC.seq ?_
              refine RunC.cond rfl (fun h70 => ?_) (fun h70 => ?_)
              · have h70 := of_decide_eq_true h70
                have hf4 : f < 4 := by omega
                have hxf := okG_tet hok htN hf4
                rw [fAt_of hx] at hxf
                refine RunC.skip ?_
                refine Ends.then ?_
                refine RunC.seq ?_
                refine RunC.block ?_
                refine RunC.seq ?_
                refine RunC.region ?_
                refine RunL.still rfl rfl rfl (Still.move rfl rfl) ?_
                refine RunL.still rfl rfl rfl (Still.indexAgg rfl rfl rfl Tryz.underlying35 Tryz.sizeOf34 Tryz.isAgg34 ⟨by omega, by omega⟩ (ttV_part x hf4)) ?_
                refine RunL.grows rfl rfl rfl (Grows.alloc rfl Tryz.zeroValue34) (fun b17 _ => ?_)
                refine RunL.still rfl rfl rfl (Still.assign rfl rfl) ?_
                refine RunL.does0 rfl rfl (Does.store rfl rfl rfl (i := 0) rfl Tryz.sizeOf34 rfl (rfl) rfl) (fun _ _ => ?_)
                refine RunL.nil ?_
                refine Ends.then ?_
                refine RunC.seq ?_
                refine RunC.region ?_
                refine RunL.still rfl rfl rfl (Still.fieldAddrL (off := 0) (off' := 0) rfl rfl Tryz.underlying34 rfl Tryz.sizeOf3 rfl) ?_
                refine RunL.still rfl rfl rfl (Still.load rfl rfl Tryz.isAgg3 (fun _ hs => cell_nth (hs.at (i := 0) rfl) rfl)) ?_
                refine RunL.still rfl rfl rfl (Still.geq rfl rfl rfl) ?_
                refine RunL.nil ?_
                refine Ends.then ?_
                refine RunC.cond rfl (fun h75 => ?_) (fun h75 => ?_)
                · have h75 := of_decide_eq_true h75
                  refine RunC.region ?_
                  refine RunL.still rfl rfl rfl (Still.move rfl rfl) ?_
                  refine RunL.still rfl rfl rfl (Still.move rfl rfl) ?_
                  refine RunL.still rfl rfl rfl (Still.fieldAddrL (off := 0) (off' := 0) rfl rfl Tryz.underlying34 rfl Tryz.sizeOf3 rfl) ?_
                  refine RunL.still rfl rfl rfl (Still.load rfl rfl Tryz.isAgg3 (fun _ hs => cell_nth (hs.at (i := 0) rfl) rfl)) ?_
                  refine RunL.still rfl rfl rfl (Still.lookup1 (k := (x.at f).tet) rfl rfl rfl (i := 4) rfl Tryz.underlying96 mk3 Tryz.zeroValue3 (mpTo_val h75 (by omega))) ?_
                  refine RunL.still rfl rfl rfl (Still.indexArrNL rfl rfl rfl Tryz.underlying35 Tryz.sizeOf34 (by omega)) ?_
                  refine RunL.still rfl rfl rfl (Still.fieldAddrL rfl rfl Tryz.underlying34 rfl Tryz.sizeOf3 rfl) ?_
                  refine RunL.does0 rfl rfl (Does.store1 rfl rfl rfl (i := 1) rfl Tryz.sizeOf3 rfl (Nat.ble_eq_true_of_le (show 0 + f * 5 + 0 + 1 ≤ 20 by omega))) (fun _ _ => ?_)
                  refine RunL.conv (fun _ hs => hs.re 1 rfl (show _ = HL.obj b15 (.cells (ttA (chTo (numM (partsOf g) k) x (f + 1))) 35 (0, 0)) from congrArg (fun z => HL.obj b15 (.cells z 35 (0, 0))) (chTo_tet hf4 (numM_pos h75)))) ?_
                  refine RunL.nil ?_
                  refine Ends.block ?_
                  refine Ends.then ?_
                  refine RunC.region ?_
                  refine RunL.still rfl rfl rfl (Still.add rfl rfl rfl (fits64 (by omega) (by omega))) ?_
                  refine RunL.still rfl rfl rfl (Still.move rfl rfl) ?_
                  refine RunL.nil ?_
                  refine Ends.again (f + 1) ?_ ?_ (Fr.Sub.app ?_ ?_) ?_
                  · show _; omega
                  · show _ < _; omega
                  · exact Fr.Sub.cons rfl (Fr.Sub.nil _)
                  · exact Fr.Sub.cons rfl (Fr.Sub.cons rfl (Fr.Sub.cons rfl (Fr.Sub.cons rfl (Fr.Sub.cons rfl (Fr.Sub.cons rfl (Fr.Sub.cons rfl (Fr.Sub.cons rfl (Fr.Sub.cons rfl (Fr.Sub.cons rfl (Fr.Sub.nil _))))))))))
                  · exact HSub.pick 1 rfl (HSub.pick 1 rfl (HSub.pick 1 rfl (HSub.pick 1 rfl (HSub.pick 1 rfl (HSub.pick 1 rfl (HSub.pick 1 rfl (HSub.nil _)))))))
                · have h75 := of_decide_eq_false h75
                  refine RunC.skip ?_
                  refine Ends.block ?_
                  refine Ends.then ?_
                  refine RunC.region ?_
                  refine RunL.still rfl rfl rfl (Still.add rfl rfl rfl (fits64 (by omega) (by omega))) ?_
                  refine RunL.still rfl rfl rfl (Still.move rfl rfl) ?_
                  refine RunL.nil ?_
                  refine Ends.again (f + 1) ?_ ?_ (Fr.Sub.app ?_ ?_) ?_
                  · show _; omega
                  · show _ < _; omega
                  · exact Fr.Sub.cons rfl (Fr.Sub.nil _)
                  · exact Fr.Sub.cons rfl (Fr.Sub.cons rfl (Fr.Sub.cons rfl (Fr.Sub.cons rfl (Fr.Sub.cons rfl (Fr.Sub.cons rfl (Fr.Sub.cons rfl (Fr.Sub.cons rfl (Fr.Sub.cons rfl (Fr.Sub.cons rfl (Fr.Sub.nil _))))))))))
                  · exact HSub.pick 1 (by rw [chTo_keep hf4 (numM_neg (by omega))]; rfl) (HSub.pick 1 rfl (HSub.pick 1 rfl (HSub.pick 1 rfl (HSub.pick 1 rfl (HSub.pick 1 rfl (HSub.pick 1 rfl (HSub.nil _)))))))
              · have h70 := of_decide_eq_false h70
                obtain rfl : f = 4 := by omega
                refine RunC.exit ?_
                refine Ends.then_exit ?_
                refine Ends.then_exit ?_
                refine Ends.block_exit ?_
                refine Ends.then ?_
                refine RunC.conv (fun _ hs => hs.re 0 rfl (show _ = HL.obj b15 (.cells (ttV (mapF x (numM (partsOf g) k))).cells 35 (0, 0)) by rw [chTo_four]; rfl)) ?_
                refine RunC.region ?_
                refine RunL.still rfl rfl rfl (Still.fieldAddrL (off := 0) (off' := 0) rfl rfl Tryz.underlying24 rfl Tryz.sizeOf22 rfl) ?_
                refine RunL.still rfl rfl rfl (Still.load rfl rfl Tryz.isAgg22 (fun _ hs => cell_nth (hs.at (i := 1) rfl) rfl)) ?_
                refine RunL.still rfl rfl rfl (Still.loads rfl rfl Tryz.isAgg35 Tryz.sizeOf35 (vs := [_, _, _, _, _, _, _, _, _, _, _, _, _, _, _, _, _, _, _, _]) rfl (fun _ hs => cells_nth (hs.at (i := 0) rfl) ⟨rfl, ⟨rfl, ⟨rfl, ⟨rfl, ⟨rfl, ⟨rfl, ⟨rfl, ⟨rfl, ⟨rfl, ⟨rfl, ⟨rfl, ⟨rfl, ⟨rfl, ⟨rfl, ⟨rfl, ⟨rfl, ⟨rfl, ⟨rfl, ⟨rfl, ⟨rfl, trivial⟩⟩⟩⟩⟩⟩⟩⟩⟩⟩⟩⟩⟩⟩⟩⟩⟩⟩⟩⟩)) ?_
                refine RunL.grows rfl rfl rfl (Grows.slice1 rfl rfl Tryz.underlying22 Tryz.sizeOf35 rfl Tryz.zeroValue35 (by decide)) (fun b87 _ => ?_)
                refine RunL.does rfl rfl rfl (Does.appendTo (n' := ((partL g (partsOf g) k t).length + 1)) (xs' := (((partL g (partsOf g) k t) ++ [mapF x (numM (partsOf g) k)]).flatMap encT)) (news := [_, _, _, _, _, _, _, _, _, _, _, _, _, _, _, _, _, _, _, _]) rfl rfl rfl rfl (i := 3) rfl Tryz.underlying22 (by kernel_rfl : (_ : Option _) = some (some (.agg #[.int .i64 0, .int .i64 0, .int .i64 0, .int .i64 0, .int .i64 0, .int .i64 0, .int .i64 0, .int .i64 0, .int .i64 0, .int .i64 0, .int .i64 0, .int .i64 0, .int .i64 0, .int .i64 0, .int .i64 0, .int .i64 0, .int .i64 0, .int .i64 0, .int .i64 0, .int .i64 0]), 20, 160)) rfl rfl (fun _ hs => cells_nth (hs.at (i := 0) rfl) ⟨rfl, ⟨rfl, ⟨rfl, ⟨rfl, ⟨rfl, ⟨rfl, ⟨rfl, ⟨rfl, ⟨rfl, ⟨rfl, ⟨rfl, ⟨rfl, ⟨rfl, ⟨rfl, ⟨rfl, ⟨rfl, ⟨rfl, ⟨rfl, ⟨rfl, ⟨rfl, trivial⟩⟩⟩⟩⟩⟩⟩⟩⟩⟩⟩⟩⟩⟩⟩⟩⟩⟩⟩⟩) rfl rfl (by have := partL_len (g := g) (l := partsOf g) (k := k) t; omega) (by have := partL_len (g := g) (l := partsOf g) (k := k) t; omega) (rfl) (flatT_snoc _ _)) (fun v88 hv88 => ?_)
                refine RunL.know (fun _ hs => own_oneCell (hs.own (i := 3) rfl)) (fun h1v => ?_)
                refine RunL.still rfl rfl rfl (Still.fieldAddrL (off := 0) (off' := 0) rfl rfl Tryz.underlying24 rfl Tryz.sizeOf22 rfl) ?_
                refine RunL.does0 rfl rfl (Does.store1 rfl rfl rfl (i := 2) rfl Tryz.sizeOf22 (h1v) (rfl)) (fun _ _ => ?_)
                refine RunL.nil ?_
                refine Ends.block ?_
                refine Ends.then ?_
                refine RunC.region ?_
                refine RunL.still rfl rfl rfl (Still.add rfl rfl rfl (fits64 (by omega) (by omega))) ?_
                refine RunL.still rfl rfl rfl (Still.move rfl rfl) ?_
                refine RunL.nil ?_
                refine Ends.again (v88, t + 1) ?_ ?_ (Fr.Sub.app ?_ ?_) ?_
                · show t + 1 ≤ _; omega
                · show _ - (t + 1) < _ - t; omega
                · exact Fr.Sub.cons rfl (Fr.Sub.nil _)
                · exact Fr.Sub.cons rfl (Fr.Sub.cons rfl (Fr.Sub.cons rfl (Fr.Sub.cons rfl (Fr.Sub.cons rfl (Fr.Sub.cons rfl (Fr.Sub.cons rfl (Fr.Sub.nil _)))))))
                · exact HSub.pick 2 rfl (HSub.pick 2 (by rw [partL_yes (Decidable.not_not.1 h62), hxt, List.length_append]; rfl) (HSub.pick 2 rfl (HSub.pick 2 rfl (HSub.pick 2 rfl (HSub.pick 2 rfl (HSub.nil _))))))
          · have h56 := of_decide_eq_false h56
            obtain rfl : t = g.length := by omega
            refine RunC.know (fun _ hs => own_shape (hs.own (i := 1) rfl)) (fun hsh => ?_)
            obtain ⟨vb, vc, hvv, hvb⟩ := hsh
            subst hvv
            refine RunC.exit ?_
            refine Ends.then_exit ?_
            refine Ends.then_exit ?_
            refine Ends.block_exit ?_
            refine Ends.then ?_
            refine RunC.seq ?_
            refine RunC.region ?_
            refine RunL.still rfl rfl rfl (Still.loads rfl rfl Tryz.isAgg24 Tryz.sizeOf24 (vs := [_]) rfl (fun _ hs => cells_nth (hs.at (i := 0) rfl) ⟨rfl, trivial⟩)) ?_
            refine RunL.does0 rfl rfl (Does.store rfl rfl rfl (i := 4) rfl Tryz.sizeOf24 rfl (rfl) rfl) (fun _ _ => ?_)
            refine RunL.still rfl rfl rfl (Still.assign rfl rfl) ?_
            refine RunL.nil ?_
            refine Ends.then ?_
            refine RunC.ret ?_
            refine Ends.leave (.inl rfl) (fun _ _ ok => results2 Tryz.results33 (Holds.cell rfl (fun _ hs => load_cells (vs := [_]) Tryz.isAgg24 Tryz.sizeOf24 rfl (cells_nth (hs.at (i := 4) rfl) ⟨rfl, trivial⟩))) (Holds.tmp rfl) ok) (fun w1 hs => ?_)
            exact Ret.intro (vb, vc) hvb rfl (HSub.pick 1 rfl (HSub.nil _)) hs

end Go.Proofs
/- The statement GlueStays: the walk. -/
namespace Go.Proofs
open Go Go.V
set_option maxRecDepth 20000
end Go.Proofs
/- What the search for parts finds: the classes of what is glued together. -/
namespace Go.V
open Go
/-- What can be reached from a tetrahedron. -/
inductive Cn (g : Glu) : Nat → Nat → Prop
  | refl (t : Nat) : Cn g t t
  | step {t u f : Nat} : Cn g t u → u < g.length → f < 4 → 0 ≤ (fAt g u f).tet → Cn g t (fAt g u f).tet.toNat
theorem Cn.trans {g : Glu} {t u v : Nat} (h : Cn g t u) (h2 : Cn g u v) : Cn g t v := by
  induction h2 with
  | refl => exact h
  | step _ hu hf h0 ih => exact ih.step hu hf h0
theorem okG_hi {g : Glu} (hg : okG g = true) {u f : Nat} (hu : u < g.length) (hf : f < 4) (h0 : 0 ≤ (fAt g u f).tet) : (fAt g u f).tet.toNat < g.length := by
  have hF := okG_glued hg hu hf h0
  have := hF.hi; omega
theorem okG_back {g : Glu} (hg : okG g = true) {u f : Nat} (hu : u < g.length) (hf : f < 4) (h0 : 0 ≤ (fAt g u f).tet) : Cn g (fAt g u f).tet.toNat u := by
  have hF := okG_glued hg hu hf h0
  have hp := okP_at hF.ok f
  have hb := hF.back
  have h1 : 0 ≤ (fAt g (fAt g u f).tet.toNat ((fAt g u f).p.at f).toNat).tet := by rw [hb]; show 0 ≤ (u : Int); omega
  have := Cn.step (g := g) (Cn.refl (fAt g u f).tet.toNat) (okG_hi hg hu hf h0) (f := ((fAt g u f).p.at f).toNat) (by omega) h1
  rw [hb] at this
  simpa using this
theorem Cn.symm {g : Glu} (hg : okG g = true) {t u : Nat} (h : Cn g t u) : Cn g u t := by
  induction h with
  | refl => exact .refl _
  | step _ hu hf h0 ih => exact (okG_back hg hu hf h0).trans ih
theorem Cn.lt {g : Glu} (hg : okG g = true) {t u : Nat} (h : Cn g t u) (ht : t < g.length) : u < g.length := by
  induction h with
  | refl => exact ht
  | step _ hu hf h0 _ => exact okG_hi hg hu hf h0
/-- The search within a part. -/
structure PJ (g : Glu) (out0 : List Int) (t0 : Nat) (n : Int) (q : Nat) (s : BSt) : Prop where
  st : PSt g s
  lab : ∀ u ∈ s.2, s.1.getD u 0 = n ∧ Cn g t0 u
  same : ∀ v, v ∉ s.2 → s.1.getD v 0 = out0.getD v 0
  fresh : ∀ u ∈ s.2, out0.getD u 0 < 0
  done : ∀ j u f, 4 * j + f < q → s.2[j]? = some u → f < 4 → 0 ≤ (fAt g u f).tet → 0 ≤ s.1.getD (fAt g u f).tet.toNat 0
theorem pFace_J {g : Glu} {out0 : List Int} {t0 : Nat} {n : Int} (hn : 0 ≤ n) (hg : okG g = true) {i f u : Nat} {s : BSt} (h : PJ g out0 t0 n (4 * i + f) s) (hu : s.2[i]? = some u) (hf : f < 4) : PJ g out0 t0 n (4 * i + f + 1) (pFace g n u f s) := by
  have hum : u ∈ s.2 := List.mem_of_getElem? hu
  have huN := h.st.mem u hum
  by_cases hc : 0 ≤ (fAt g u f).tet ∧ s.1.getD (fAt g u f).tet.toNat 0 < 0
  · have hst := pFace_ok hn hg huN hf h.st
    rw [pFace_go hc.1 hc.2] at hst ⊢
    have hwN := okG_hi hg huN hf hc.1
    generalize hw : (fAt g u f).tet.toNat = w at hc hst hwN ⊢
    have hwn : w ∉ s.2 := fun hm => by have := (h.lab w hm).1; omega
    have hl : w < s.1.length := by rw [h.st.len]; exact hwN
    refine ⟨hst, fun v hv => ?_, fun v hv => ?_, fun v hv => ?_, fun j v f' hj hv hf' h0 => ?_⟩
    · rcases List.mem_append.1 hv with hv | hv
      · have : w ≠ v := fun e => hwn (e ▸ hv)
        show (s.1.set w n).getD v 0 = n ∧ _
        rw [getD_set_ne' this]; exact h.lab v hv
      · obtain rfl := List.mem_singleton.1 hv
        refine ⟨getD_set_self' hl, ?_⟩
        rw [← hw]; exact ((h.lab u hum).2).step huN hf hc.1
    · have : w ≠ v := fun e => hv (List.mem_append.2 (.inr (by simp [e])))
      show (s.1.set w n).getD v 0 = _
      rw [getD_set_ne' this]; exact h.same v (fun hm => hv (List.mem_append.2 (.inl hm)))
    · rcases List.mem_append.1 hv with hv | hv
      · exact h.fresh v hv
      · obtain rfl := List.mem_singleton.1 hv
        rw [← h.same v hwn]; exact hc.2
    · show 0 ≤ (s.1.set w n).getD _ 0
      by_cases e : w = (fAt g v f').tet.toNat
      · rw [← e, getD_set_self' hl]; exact hn
      · rw [getD_set_ne' e]
        have hil := (List.getElem?_eq_some_iff.1 hu).1
        have hv' : s.2[j]? = some v := by
          have hv2 : (s.2 ++ [w])[j]? = some v := hv
          rwa [List.getElem?_append_left (by omega)] at hv2
        rcases Nat.lt_or_ge (4 * j + f') (4 * i + f) with h1 | h1
        · exact h.done j v f' h1 hv' hf' h0
        · obtain ⟨rfl, rfl⟩ : j = i ∧ f' = f := by omega
          rw [hu] at hv'; cases hv'
          exact absurd hw.symm e
  · rw [pFace_no hc]
    refine ⟨h.st, h.lab, h.same, h.fresh, fun j v f' hj hv hf' h0 => ?_⟩
    rcases Nat.lt_or_ge (4 * j + f') (4 * i + f) with h1 | h1
    · exact h.done j v f' h1 hv hf' h0
    · obtain ⟨rfl, rfl⟩ : j = i ∧ f' = f := by omega
      rw [hu] at hv; cases hv
      omega
theorem pTo_J {g : Glu} {out0 : List Int} {t0 : Nat} {n : Int} (hn : 0 ≤ n) (hg : okG g = true) {i u : Nat} {s : BSt} (h : PJ g out0 t0 n (4 * i) s) (hu : s.2[i]? = some u) : ∀ f, f ≤ 4 → PJ g out0 t0 n (4 * i + f) (pTo g n u s f)
  | 0, _ => h
  | f + 1, hf => pFace_J hn hg (pTo_J hn hg h hu f (by omega)) (pTo_pre hu f) (by omega)
theorem pBfs_J {g : Glu} {out0 : List Int} {t0 : Nat} {n : Int} (hn : 0 ≤ n) (hg : okG g = true) : ∀ (k i : Nat) {s : BSt}, PJ g out0 t0 n (4 * i) s → i + k = g.length → ∃ q, 4 * (pBfs g n k i s).2.length ≤ q ∧ PJ g out0 t0 n q (pBfs g n k i s)
  | 0, i, s, h, hk => ⟨4 * i, by have := h.st.room; show 4 * s.2.length ≤ _; omega, h⟩
  | k + 1, i, s, h, hk => by
    by_cases hi : i < s.2.length
    · have hu := getD_nat hi
      rw [pBfs_step hu]
      exact pBfs_J hn hg k (i + 1) (pTo_J hn hg h hu 4 (Nat.le_refl 4)) (by omega)
    · rw [pBfs_done hi]
      exact ⟨4 * i, by omega, h⟩
theorem PJ.start {g : Glu} {out : List Int} {t : Nat} {n : Int} (hl : out.length = g.length) (ht : t < g.length) (hn : 0 ≤ n) (h : out.getD t 0 < 0) : PJ g out t n (4 * 0) (out.set t n, [t]) := by
  refine ⟨.start hl ht hn h, fun u hu => ?_, fun v hv => ?_, fun u hu => ?_, fun j u f hj => by omega⟩
  · obtain rfl := List.mem_singleton.1 hu
    exact ⟨getD_set_self' (by omega), .refl _⟩
  · exact getD_set_ne' (fun e => hv (by simp [e]))
  · obtain rfl := List.mem_singleton.1 hu; exact h
/-- What is known of the numbers given so far. -/
structure PA (g : Glu) (t : Nat) (s : List Int × Int) : Prop where
  len : s.1.length = g.length
  pos : 0 ≤ s.2
  vis : ∀ v, v < t → 0 ≤ s.1.getD v 0
  rng : ∀ v, v < g.length → s.1.getD v 0 < s.2
  edge : ∀ v f, v < g.length → f < 4 → 0 ≤ s.1.getD v 0 → 0 ≤ (fAt g v f).tet → s.1.getD (fAt g v f).tet.toNat 0 = s.1.getD v 0
  cls : ∀ u v, u < g.length → v < g.length → 0 ≤ s.1.getD u 0 → s.1.getD u 0 = s.1.getD v 0 → Cn g u v
  onto : ∀ k, 0 ≤ k → k < s.2 → ∃ v, v < g.length ∧ s.1.getD v 0 = k
theorem edge_back {g : Glu} (hg : okG g = true) {u f : Nat} (hu : u < g.length) (hf : f < 4) (h0 : 0 ≤ (fAt g u f).tet) : ∃ f', f' < 4 ∧ (fAt g (fAt g u f).tet.toNat f') = ⟨(u : Int), invP (fAt g u f).p⟩ := by
  have hF := okG_glued hg hu hf h0
  have hp := okP_at hF.ok f
  exact ⟨((fAt g u f).p.at f).toNat, by omega, hF.back⟩
theorem pAll_A {g : Glu} (hg : okG g = true) : ∀ t, t ≤ g.length → PA g t (pAll g t)
  | 0, _ => by
    have e : ∀ v, v < g.length → (List.replicate g.length (-1 : Int)).getD v 0 = -1 := fun v hv => by simp [List.getD_eq_getElem?_getD, hv]
    refine ⟨by simp [pAll], Int.le_refl 0, fun v hv => absurd hv (Nat.not_lt_zero _), fun v hv => ?_, fun v f hv hf h => ?_, fun u v hu hv h => ?_, fun k h0 h1 => ?_⟩
    · show (List.replicate g.length (-1 : Int)).getD v 0 < 0; rw [e v hv]; decide
    · have h : 0 ≤ (List.replicate g.length (-1 : Int)).getD v 0 := h
      rw [e v hv] at h; exact absurd h (by decide)
    · have h : 0 ≤ (List.replicate g.length (-1 : Int)).getD u 0 := h
      rw [e u hu] at h; exact absurd h (by decide)
    · have h1 : k < 0 := h1
      omega
  | t + 1, ht => by
    have ih := pAll_A hg t (by omega)
    by_cases hc : 0 ≤ (pAll g t).1.getD t 0
    · rw [pAll_keep hc]
      exact ⟨ih.len, ih.pos, fun v hv => by rcases Nat.lt_or_ge v t with h | h; exact ih.vis v h; obtain rfl : v = t := (by omega); exact hc, ih.rng, ih.edge, ih.cls, ih.onto⟩
    · rw [pAll_new hc]
      generalize hs0 : pAll g t = s0 at ih hc ⊢
      obtain ⟨out, n⟩ := s0
      have hlen : out.length = g.length := ih.len
      have hpos : 0 ≤ n := ih.pos
      have hc : out.getD t 0 < 0 := by have hc : ¬ 0 ≤ out.getD t 0 := hc; omega
      obtain ⟨q, hq, hJ⟩ := pBfs_J hpos hg g.length 0 (PJ.start hlen (by omega) hpos hc) (by omega)
      show PA g (t + 1) ((pBfs g n g.length 0 (out.set t n, [t])).1, n + 1)
      have htm : t ∈ (pBfs g n g.length 0 (out.set t n, [t])).2 := by
        by_cases h : t ∈ (pBfs g n g.length 0 (out.set t n, [t])).2
        · exact h
        · exfalso
          have key : ∀ (k i : Nat) (s : BSt), t ∈ s.2 → t ∈ (pBfs g n k i s).2 := by
            intro k
            induction k with
            | zero => exact fun i s hs => hs
            | succ k ih2 =>
              intro i s hs
              rw [pBfs]
              split
              · refine ih2 _ _ ?_
                obtain ⟨j, hj⟩ := List.getElem?_of_mem hs
                exact List.mem_of_getElem? (pTo_pre hj 4)
              · exact hs
          exact h (key _ _ _ (List.mem_singleton.2 rfl))
      generalize hr : pBfs g n g.length 0 (out.set t n, [t]) = r at hJ hq htm ⊢
      obtain ⟨o2, l⟩ := r
      have hlab : ∀ u ∈ l, o2.getD u 0 = n ∧ Cn g t u := hJ.lab
      have hsame : ∀ v, v ∉ l → o2.getD v 0 = out.getD v 0 := hJ.same
      have hfresh : ∀ u ∈ l, out.getD u 0 < 0 := hJ.fresh
      have hmem : ∀ u ∈ l, u < g.length := hJ.st.mem
      have holdE : ∀ v f, v < g.length → f < 4 → 0 ≤ out.getD v 0 → 0 ≤ (fAt g v f).tet → out.getD (fAt g v f).tet.toNat 0 = out.getD v 0 := ih.edge
      have hclosed : ∀ u f, u ∈ l → f < 4 → 0 ≤ (fAt g u f).tet → (fAt g u f).tet.toNat ∈ l := by
        intro u f hu hf h0
        by_cases hm : (fAt g u f).tet.toNat ∈ l
        · exact hm
        · exfalso
          obtain ⟨j, hj⟩ := List.getElem?_of_mem hu
          have hjl := (List.getElem?_eq_some_iff.1 hj).1
          have h1 : 0 ≤ o2.getD (fAt g u f).tet.toNat 0 := hJ.done j u f (by have hq : 4 * l.length ≤ q := hq; omega) hj hf h0
          rw [hsame _ hm] at h1
          obtain ⟨f', hf', hb⟩ := edge_back hg (hmem u hu) hf h0
          have h2 := holdE (fAt g u f).tet.toNat f' (okG_hi hg (hmem u hu) hf h0) hf' h1 (by rw [hb]; show 0 ≤ (u : Int); omega)
          rw [hb] at h2
          have h2 : out.getD u 0 = out.getD (fAt g u f).tet.toNat 0 := by simpa using h2
          have := hfresh u hu
          omega
      refine ⟨hJ.st.len, by show 0 ≤ n + 1; omega, fun v hv => ?_, fun v hv => ?_, fun v f hv hf h h0 => ?_, fun u v hu hv h e => ?_, fun k h0 h1 => ?_⟩
      · show 0 ≤ o2.getD v 0
        by_cases hm : v ∈ l
        · rw [(hlab v hm).1]; exact hpos
        · rw [hsame v hm]
          rcases Nat.lt_or_ge v t with h | h
          · exact ih.vis v h
          · obtain rfl : v = t := by omega
            exact absurd htm hm
      · show o2.getD v 0 < n + 1
        by_cases hm : v ∈ l
        · rw [(hlab v hm).1]; omega
        · rw [hsame v hm]; have : out.getD v 0 < n := ih.rng v hv; omega
      · show o2.getD (fAt g v f).tet.toNat 0 = o2.getD v 0
        have h : 0 ≤ o2.getD v 0 := h
        by_cases hm : v ∈ l
        · rw [(hlab v hm).1, (hlab _ (hclosed v f hm hf h0)).1]
        · rw [hsame v hm] at h ⊢
          have e := holdE v f hv hf h h0
          by_cases hm2 : (fAt g v f).tet.toNat ∈ l
          · have := hfresh _ hm2; omega
          · rw [hsame _ hm2, e]
      · have h : 0 ≤ o2.getD u 0 := h
        have e : o2.getD u 0 = o2.getD v 0 := e
        by_cases hm : u ∈ l <;> by_cases hm2 : v ∈ l
        · exact ((hlab u hm).2.symm hg).trans (hlab v hm2).2
        · rw [(hlab u hm).1, hsame v hm2] at e
          have : out.getD v 0 < n := ih.rng v hv
          omega
        · rw [(hlab v hm2).1, hsame u hm] at e
          have : out.getD u 0 < n := ih.rng u hu
          omega
        · rw [hsame u hm] at h e
          rw [hsame v hm2] at e
          exact ih.cls u v hu hv h e
      · have h1 : k < n + 1 := h1
        by_cases e : k = n
        · subst e; exact ⟨t, by omega, (hlab t htm).1⟩
        · obtain ⟨v, hv, hvk⟩ := ih.onto k h0 (by show k < n; omega)
          have hvk : out.getD v 0 = k := hvk
          have : v ∉ l := fun hm => by have := hfresh v hm; omega
          exact ⟨v, hv, by show o2.getD v 0 = k; rw [hsame v this, hvk]⟩
/-- The parts are the classes, numbered from 0 on. -/
theorem parts_A {g : Glu} (hg : okG g = true) : PA g g.length (partsOf g, partsN g) := pAll_A hg g.length (Nat.le_refl _)
theorem parts_len {g : Glu} (hg : okG g = true) : (partsOf g).length = g.length := (parts_A hg).len
theorem parts_rng {g : Glu} (hg : okG g = true) {t : Nat} (ht : t < g.length) : 0 ≤ (partsOf g).getD t 0 ∧ (partsOf g).getD t 0 < partsN g := ⟨(parts_A hg).vis t ht, (parts_A hg).rng t ht⟩
theorem parts_iff {g : Glu} (hg : okG g = true) {t u : Nat} (ht : t < g.length) (hu : u < g.length) : (partsOf g).getD t 0 = (partsOf g).getD u 0 ↔ Cn g t u := by
  constructor
  · exact (parts_A hg).cls t u ht hu (parts_rng hg ht).1
  · intro h
    induction h with
    | refl => rfl
    | step h hu2 hf h0 ih =>
      rw [ih hu2]
      exact ((parts_A hg).edge _ _ hu2 hf (parts_rng hg hu2).1 h0).symm
end Go.V
/- Orientations: what the search finds. -/
namespace Go.V
open Go
structure OJ (g : Glu) (out0 : List Int) (q : Nat) (s : BSt) : Prop where
  st : OSt g s
  same : ∀ v, v ∉ s.2 → s.1.getD v 0 = out0.getD v 0
  fresh : ∀ u ∈ s.2, out0.getD u 0 = 0
  done : ∀ j u f, 4 * j + f < q → s.2[j]? = some u → f < 4 → 0 ≤ (fAt g u f).tet → s.1.getD (fAt g u f).tet.toNat 0 = -sgnP (fAt g u f).p * s.1.getD u 0
theorem OJ.start {g : Glu} {out : List Int} {t : Nat} (h : OAll g out) (ht : t < g.length) (h0 : out.getD t 0 = 0) : OJ g out (4 * 0) (out.set t 1, [t]) :=
  ⟨.start h ht h0, fun v hv => getD_set_ne' (fun e => hv (by simp [e])), fun u hu => by obtain rfl := List.mem_singleton.1 hu; exact h0, fun j u f hj => by omega⟩
end Go.V
/- The twofold cover and the double: validity, orientations, parts. -/
namespace Go.V
open Go
def sh (b : Bool) (p : P4) : Bool := if sgnP p = 1 then !b else b
end Go.V
/- The statement GlueTwofold: the walk. -/
namespace Go.Proofs
open Go Go.V
set_option maxRecDepth 20000
theorem cntTo_ge {xs : List Int} {v : Nat} : ∀ i, v < i → xs.getD v 0 + 1 ≤ cntTo xs i
  | 0, h => absurd h (Nat.not_lt_zero _)
  | i + 1, h => by
    rw [cntTo]
    rcases Nat.lt_or_ge v i with h1 | h1
    · have := cntTo_ge (xs := xs) i h1; omega
    · obtain rfl : v = i := by omega
      omega
theorem cntTo_le {xs : List Int} {N : Int} (h0 : 0 ≤ N) (h : ∀ v, v < xs.length → xs.getD v 0 < N) : ∀ i, i ≤ xs.length → cntTo xs i ≤ N
  | 0, _ => h0
  | i + 1, hi => by
    have h1 := cntTo_le h0 h i (by omega)
    have h2 := h i (by omega)
    rw [cntTo]; omega
theorem cntTo_zero {xs : List Int} : ∀ i, 0 ≤ cntTo xs i
  | 0 => Int.le_refl _
  | i + 1 => by have := cntTo_zero (xs := xs) i; rw [cntTo]; omega
theorem cnt_partsN {g : Glu} (hg : okG g = true) : cntTo (partsOf g) (partsOf g).length = partsN g := by
  have hA := parts_A hg
  have hl := parts_len hg
  have h1 := cntTo_le (xs := partsOf g) hA.pos (fun v hv => hA.rng v (by omega)) (partsOf g).length (Nat.le_refl _)
  have h1 : cntTo (partsOf g) (partsOf g).length ≤ partsN g := h1
  have hp : 0 ≤ partsN g := hA.pos
  have h2 := cntTo_zero (xs := partsOf g) (partsOf g).length
  by_cases h0 : partsN g = 0
  · omega
  · obtain ⟨v, hv, e⟩ := hA.onto (partsN g - 1) (by omega) (by show partsN g - 1 < partsN g; omega)
    have e : (partsOf g).getD v 0 = partsN g - 1 := e
    have := cntTo_ge (xs := partsOf g) (v := v) (partsOf g).length (by omega)
    omega
theorem partsN_le {g : Glu} (hg : okG g = true) : partsN g ≤ g.length := (pAll_ok hg g.length (Nat.le_refl _)).2.2
theorem lw_count_parts {g : Glu} (b : Nat) (w : World) (hg : okG g = true) (h : w.ownsRow 0 3 1 (.slice (some ⟨b, 0, none⟩) g.length g.length) g.length (ints (partsOf g))) : Gives Tryz.prog 17 #[.slice (some ⟨b, 0, none⟩) g.length g.length] w Nil (fun _ : Unit => True) (fun _ => iv (partsN g)) (fun _ => []) := by
  have hl := parts_len hg
  have h1000 := okG_len hg
  have hN := partsN_le hg
  have hs := own_shape h
  have := lw_count (.slice (some ⟨b, 0, none⟩) g.length g.length) (partsOf g) w (by rw [hl]; exact hs) (own_all h) (by omega) (fun x hx => by
    obtain ⟨i, hi⟩ := List.getElem?_of_mem hx
    have hi2 := (List.getElem?_eq_some_iff.1 hi).1
    have hr := parts_rng hg (t := i) (by omega)
    rw [getD_some hi 0] at hr
    omega)
  rwa [cnt_partsN hg] at this
end Go.Proofs
/- When two parts are equal but for a renumbering. -/
namespace Go.V
open Go
/-- The part of t in a is carried by τ and π into b. -/
structure Mt (a b : Glu) (t u : Nat) (τ : Nat → Nat) (π : Nat → P4) : Prop where
  root : τ t = u
  rng : ∀ v, Cn a t v → τ v < b.length ∧ okP (π v) = true
  inj : ∀ v v', Cn a t v → Cn a t v' → τ v = τ v' → v = v'
  free : ∀ v f, Cn a t v → f < 4 → ((fAt a v f).tet < 0 ↔ (fAt b (τ v) ((π v).at f).toNat).tet < 0)
  glue : ∀ v f, Cn a t v → f < 4 → 0 ≤ (fAt a v f).tet → (fAt b (τ v) ((π v).at f).toNat).tet = (τ (fAt a v f).tet.toNat : Int) ∧ π (fAt a v f).tet.toNat = compP (fAt b (τ v) ((π v).at f).toNat).p (compP (π v) (invP (fAt a v f).p))
def Iso (a b : Glu) (t u : Nat) : Prop := ∃ τ π, Mt a b t u τ π
theorem Mt.reroot {a b : Glu} {t u t' : Nat} {τ : Nat → Nat} {π : Nat → P4} (h : Mt a b t u τ π) (hc : Cn a t t') : Mt a b t' (τ t') τ π :=
  ⟨rfl, fun v hv => h.rng v (hc.trans hv), fun v v' hv hv' => h.inj v v' (hc.trans hv) (hc.trans hv'), fun v f hv => h.free v f (hc.trans hv), fun v f hv => h.glue v f (hc.trans hv)⟩
theorem p4_range {p : P4} (h : okP p = true) {f : Nat} : (p.at f).toNat < 4 := by have := okP_at h f; omega
/-- The way is carried. -/
theorem Mt.image {a b : Glu} {t u : Nat} {τ : Nat → Nat} {π : Nat → P4} (h : Mt a b t u τ π) {v : Nat} (hv : Cn a t v) : Cn b u (τ v) := by
  induction hv with
  | refl => rw [h.root]; exact .refl _
  | step hv hu hf h0 ih =>
    rename_i w f
    have hg := (h.glue w f hv hf h0).1
    have hr := h.rng w hv
    have := ih.step hr.1 (p4_range hr.2) (by rw [hg]; exact Int.natCast_nonneg _)
    rw [hg] at this
    simpa using this
/-- All of b's part is met. -/
theorem Mt.onto {a b : Glu} (ha : okG a = true) {t u : Nat} {τ : Nat → Nat} {π : Nat → P4} (ht : t < a.length) (h : Mt a b t u τ π) {w : Nat} (hw : Cn b u w) : ∃ v, Cn a t v ∧ τ v = w := by
  induction hw with
  | refl => exact ⟨t, .refl _, h.root⟩
  | step hw hu hf h0 ih =>
    rename_i w f
    obtain ⟨v, hv, rfl⟩ := ih
    have hr := h.rng v hv
    have hf' : ((π v).at ((invP (π v)).at f).toNat).toNat = f := by rw [at_inv hr.2 hf]; simp
    have hf4 := p4_range (invP_ok hr.2) (f := f)
    have h1 := h.free v _ hv hf4
    rw [hf'] at h1
    have h2 := h.glue v _ hv hf4 (by by_cases hx : (fAt a v ((invP (π v)).at f).toNat).tet < 0; have := h1.1 hx; omega; omega)
    rw [hf'] at h2
    exact ⟨(fAt a v ((invP (π v)).at f).toNat).tet.toNat, hv.step (hv.lt ha ht) hf4 (by by_cases hx : (fAt a v ((invP (π v)).at f).toNat).tet < 0; have := h1.1 hx; omega; omega), by rw [h2.1]; simp⟩
theorem Iso.symm {a b : Glu} (ha : okG a = true) (hb : okG b = true) {t u : Nat} (ht : t < a.length) (hu : u < b.length) (h : Iso a b t u) : Iso b a u t := by
  classical
  obtain ⟨τ, π, h⟩ := h
  have hex : ∀ w, Cn b u w → ∃ v, Cn a t v ∧ τ v = w := fun w hw => h.onto ha ht hw
  let σ : Nat → Nat := fun w => if hw : Cn b u w then Classical.choose (hex w hw) else 0
  have hσ : ∀ w, Cn b u w → Cn a t (σ w) ∧ τ (σ w) = w := fun w hw => by
    have := Classical.choose_spec (hex w hw)
    simp only [σ, hw, dif_pos]; exact this
  have hback : ∀ v, Cn a t v → σ (τ v) = v := fun v hv => by
    have h1 := hσ (τ v) (h.image hv)
    exact h.inj _ _ h1.1 hv h1.2
  refine ⟨σ, fun w => invP (π (σ w)), ?_, fun w hw => ?_, fun w w' hw hw' e => ?_, fun w f hw hf => ?_, fun w f hw hf h0 => ?_⟩
  · have := hback t (.refl _); rwa [h.root] at this
  · have h1 := hσ w hw
    exact ⟨h1.1.lt ha ht, invP_ok (h.rng _ h1.1).2⟩
  · rw [← (hσ w hw).2, ← (hσ w' hw').2, e]
  · have h1 := hσ w hw
    have hr := h.rng _ h1.1
    have hf' : ((π (σ w)).at ((invP (π (σ w))).at f).toNat).toNat = f := by rw [at_inv hr.2 hf]; simp
    have := h.free (σ w) ((invP (π (σ w))).at f).toNat h1.1 (p4_range (invP_ok hr.2))
    rw [hf', h1.2] at this
    exact this.symm
  · have h1 := hσ w hw
    have hr := h.rng _ h1.1
    have hf4 := p4_range (invP_ok hr.2) (f := f)
    have hf' : ((π (σ w)).at ((invP (π (σ w))).at f).toNat).toNat = f := by rw [at_inv hr.2 hf]; simp
    have e1 := h.free (σ w) ((invP (π (σ w))).at f).toNat h1.1 hf4
    rw [hf', h1.2] at e1
    have hx : 0 ≤ (fAt a (σ w) ((invP (π (σ w))).at f).toNat).tet := by
      by_cases hx : (fAt a (σ w) ((invP (π (σ w))).at f).toNat).tet < 0
      · have := e1.1 hx; omega
      · omega
    have e2 := h.glue (σ w) ((invP (π (σ w))).at f).toNat h1.1 hf4 hx
    rw [hf', h1.2] at e2
    have hc2 : Cn a t (fAt a (σ w) ((invP (π (σ w))).at f).toNat).tet.toNat := h1.1.step (h1.1.lt ha ht) hf4 hx
    have hbp := (okG_glued hb (hw.lt hb hu) hf h0).ok
    have hap := (okG_glued ha (h1.1.lt ha ht) hf4 hx).ok
    have hs : σ (fAt b w f).tet.toNat = (fAt a (σ w) ((invP (π (σ w))).at f).toNat).tet.toNat := by
      have : (fAt b w f).tet.toNat = τ (fAt a (σ w) ((invP (π (σ w))).at f).toNat).tet.toNat := by rw [e2.1]; simp
      rw [this, hback _ hc2]
    refine ⟨by rw [hs]; omega, ?_⟩
    show invP (π (σ (fAt b w f).tet.toNat)) = _
    rw [hs, e2.2, inv_comp_rev hbp (comp_ok hr.2 (invP_ok hap)), inv_comp_rev hr.2 (invP_ok hap), invP_inv hap, comp_assoc (invP_ok hbp)]
theorem Iso.trans {a b c : Glu} (ha : okG a = true) (hb : okG b = true) {t u w : Nat} (ht : t < a.length) (hu : u < b.length) (h : Iso a b t u) (k : Iso b c u w) : Iso a c t w := by
  obtain ⟨τ, π, h⟩ := h
  obtain ⟨τ', π', k⟩ := k
  refine ⟨fun v => τ' (τ v), fun v => compP (π' (τ v)) (π v), by show τ' (τ t) = w; rw [h.root, k.root], fun v hv => ?_, fun v v' hv hv' e => ?_, fun v f hv hf => ?_, fun v f hv hf h0 => ?_⟩
  · have h1 := h.rng v hv; have k1 := k.rng _ (h.image hv)
    exact ⟨k1.1, comp_ok k1.2 h1.2⟩
  · exact h.inj _ _ hv hv' (k.inj _ _ (h.image hv) (h.image hv') e)
  · have h1 := h.rng v hv
    rw [h.free v f hv hf, k.free (τ v) _ (h.image hv) (p4_range h1.2)]
    show _ ↔ (fAt c (τ' (τ v)) ((compP (π' (τ v)) (π v)).at f).toNat).tet < 0
    rw [comp_at _ _ hf]
  · have h1 := h.rng v hv; have k1 := k.rng _ (h.image hv)
    have e1 := h.glue v f hv hf h0
    have hy : 0 ≤ (fAt b (τ v) ((π v).at f).toNat).tet := by rw [e1.1]; exact Int.natCast_nonneg _
    have e2 := k.glue (τ v) _ (h.image hv) (p4_range h1.2) hy
    rw [e1.1, Int.toNat_natCast] at e2
    have hap := (okG_glued ha (hv.lt ha ht) hf h0).ok
    have hbp := (okG_glued hb ((h.image hv).lt hb hu) (p4_range h1.2) hy).ok
    show (fAt c (τ' (τ v)) ((compP (π' (τ v)) (π v)).at f).toNat).tet = (τ' (τ (fAt a v f).tet.toNat) : Int) ∧ compP (π' (τ (fAt a v f).tet.toNat)) (π (fAt a v f).tet.toNat) = compP (fAt c (τ' (τ v)) ((compP (π' (τ v)) (π v)).at f).toNat).p (compP (compP (π' (τ v)) (π v)) (invP (fAt a v f).p))
    rw [comp_at _ _ hf]
    refine ⟨e2.1, ?_⟩
    rw [e2.2, e1.2]
    generalize (fAt c (τ' (τ v)) ((π' (τ v)).at ((π v).at f).toNat).toNat).p = z
    have hq := invP_ok hap
    have h3 := comp_ok h1.2 hq
    rw [comp_assoc (comp_ok hbp h3), comp_assoc (comp_ok hbp h3), ← comp_assoc (p := invP (fAt b (τ v) ((π v).at f).toNat).p) h3, inv_comp hbp, id_comp h3, comp_assoc hq]
end Go.V
/- The search that matches two parts. -/
namespace Go.V
open Go
/-- Where to, by what, what is taken, the queue. -/
structure MSt where
  to : List Int
  by' : List P4
  tk : List Bool
  q : List Nat
def mX (a : Glu) (s f : Nat) : Fc := fAt a s f
def mY (b : Glu) (st : MSt) (s f : Nat) : Fc := fAt b (st.to.getD s 0).toNat ((pAt st.by' s).at f).toNat
def mWant (a b : Glu) (st : MSt) (s f : Nat) : P4 := compP (mY b st s f).p (compP (pAt st.by' s) (invP (mX a s f).p))
def mFace (a b : Glu) (s f : Nat) (st : MSt) : Option MSt :=
  if (mX a s f).tet < 0 ∨ (mY b st s f).tet < 0 then (if (mX a s f).tet = (mY b st s f).tet then some st else none)
  else if st.to.getD (mX a s f).tet.toNat 0 < 0 then
    (if st.tk.getD (mY b st s f).tet.toNat false = true then none
     else some ⟨st.to.set (mX a s f).tet.toNat (mY b st s f).tet, st.by'.set (mX a s f).tet.toNat (mWant a b st s f), st.tk.set (mY b st s f).tet.toNat true, st.q ++ [(mX a s f).tet.toNat]⟩)
  else if st.to.getD (mX a s f).tet.toNat 0 = (mY b st s f).tet ∧ pAt st.by' (mX a s f).tet.toNat = mWant a b st s f then some st else none
def mTo (a b : Glu) (s : Nat) (st : MSt) : Nat → Option MSt
  | 0 => some st
  | f + 1 => (mTo a b s st f).bind (mFace a b s f)
def mBfs (a b : Glu) : Nat → Nat → MSt → Option MSt
  | 0, _, st => some st
  | k + 1, i, st => if i < st.q.length then (mTo a b (st.q.getD i 0) st 4).bind (mBfs a b k (i + 1)) else some st
def mStart (a b : Glu) (t u : Nat) (p : P4) : MSt := ⟨(List.replicate a.length (-1)).set t u, (List.replicate a.length zP).set t p, (List.replicate b.length false).set u true, [t]⟩
def matchG (a b : Glu) (t u : Nat) (p : P4) : Bool := (mBfs a b a.length 0 (mStart a b t u p)).isSome
/-- What stays true in the search. -/
structure MJ (a b : Glu) (t0 : Nat) (n : Nat) (st : MSt) : Prop where
  pst : PSt a (st.to, st.q)
  lby : st.by'.length = a.length
  ltk : st.tk.length = b.length
  lab : ∀ v ∈ st.q, 0 ≤ st.to.getD v 0 ∧ st.to.getD v 0 < b.length ∧ okP (pAt st.by' v) = true ∧ Cn a t0 v
  inq : ∀ v, v < a.length → 0 ≤ st.to.getD v 0 → v ∈ st.q
  taken : ∀ w, w < b.length → (st.tk.getD w false = true ↔ ∃ v, v ∈ st.q ∧ st.to.getD v 0 = (w : Int))
  inj : ∀ v v', v ∈ st.q → v' ∈ st.q → st.to.getD v 0 = st.to.getD v' 0 → v = v'
  free : ∀ j v f, 4 * j + f < n → st.q[j]? = some v → f < 4 → ((mX a v f).tet < 0 ↔ (mY b st v f).tet < 0)
  glue : ∀ j v f, 4 * j + f < n → st.q[j]? = some v → f < 4 → 0 ≤ (mX a v f).tet → st.to.getD (mX a v f).tet.toNat 0 = (mY b st v f).tet ∧ pAt st.by' (mX a v f).tet.toNat = mWant a b st v f ∧ (mX a v f).tet.toNat ∈ st.q
theorem pAt_set_self {l : List P4} {i : Nat} {p : P4} (h : i < l.length) : pAt (l.set i p) i = p := by simp [pAt, List.getD_eq_getElem?_getD, h]
theorem pAt_set_ne {l : List P4} {i j : Nat} {p : P4} (h : i ≠ j) : pAt (l.set i p) j = pAt l j := by simp [pAt, List.getD_eq_getElem?_getD, List.getElem?_set_ne h]
theorem getB_set_self {l : List Bool} {i : Nat} {x : Bool} (h : i < l.length) : (l.set i x).getD i false = x := by simp [List.getD_eq_getElem?_getD, h]
theorem getB_set_ne {l : List Bool} {i j : Nat} {x : Bool} (h : i ≠ j) : (l.set i x).getD j false = l.getD j false := by simp [List.getD_eq_getElem?_getD, List.getElem?_set_ne h]
/-- The step where a new tetrahedron is met. -/
def mPut (st : MSt) (w : Nat) (y : Int) (p : P4) : MSt := ⟨st.to.set w y, st.by'.set w p, st.tk.set y.toNat true, st.q ++ [w]⟩
theorem mFace_new {a b : Glu} {s f : Nat} {st : MSt} (h : ¬ ((mX a s f).tet < 0 ∨ (mY b st s f).tet < 0)) (h0 : st.to.getD (mX a s f).tet.toNat 0 < 0) (h1 : st.tk.getD (mY b st s f).tet.toNat false = false) :
    mFace a b s f st = some (mPut st (mX a s f).tet.toNat (mY b st s f).tet (mWant a b st s f)) := by
  rw [mFace, if_neg h, if_pos h0, if_neg (by rw [h1]; decide)]; rfl
theorem mFace_taken {a b : Glu} {s f : Nat} {st : MSt} (h : ¬ ((mX a s f).tet < 0 ∨ (mY b st s f).tet < 0)) (h0 : st.to.getD (mX a s f).tet.toNat 0 < 0) (h1 : st.tk.getD (mY b st s f).tet.toNat false = true) : mFace a b s f st = none := by
  rw [mFace, if_neg h, if_pos h0, if_pos h1]
theorem mFace_same {a b : Glu} {s f : Nat} {st : MSt} (h : ¬ ((mX a s f).tet < 0 ∨ (mY b st s f).tet < 0)) (h0 : ¬ st.to.getD (mX a s f).tet.toNat 0 < 0) (h1 : st.to.getD (mX a s f).tet.toNat 0 = (mY b st s f).tet) (h2 : pAt st.by' (mX a s f).tet.toNat = mWant a b st s f) : mFace a b s f st = some st := by
  rw [mFace, if_neg h, if_neg h0, if_pos ⟨h1, h2⟩]
theorem mFace_bad {a b : Glu} {s f : Nat} {st : MSt} (h : ¬ ((mX a s f).tet < 0 ∨ (mY b st s f).tet < 0)) (h0 : ¬ st.to.getD (mX a s f).tet.toNat 0 < 0) (h1 : ¬ (st.to.getD (mX a s f).tet.toNat 0 = (mY b st s f).tet ∧ pAt st.by' (mX a s f).tet.toNat = mWant a b st s f)) : mFace a b s f st = none := by
  rw [mFace, if_neg h, if_neg h0, if_neg h1]
theorem mFace_free {a b : Glu} {s f : Nat} {st : MSt} (h : (mX a s f).tet < 0 ∨ (mY b st s f).tet < 0) (h1 : (mX a s f).tet = (mY b st s f).tet) : mFace a b s f st = some st := by rw [mFace, if_pos h, if_pos h1]
theorem mFace_differ {a b : Glu} {s f : Nat} {st : MSt} (h : (mX a s f).tet < 0 ∨ (mY b st s f).tet < 0) (h1 : ¬ (mX a s f).tet = (mY b st s f).tet) : mFace a b s f st = none := by rw [mFace, if_pos h, if_neg h1]
theorem MJ.faces {a b : Glu} (ha : okG a = true) (hb : okG b = true) {t0 n : Nat} {st : MSt} (h : MJ a b t0 n st) {s f : Nat} (hs : s ∈ st.q) (hf : f < 4) : s < a.length ∧ (st.to.getD s 0).toNat < b.length ∧ ((pAt st.by' s).at f).toNat < 4 ∧
    (0 ≤ (mX a s f).tet → (mX a s f).tet.toNat < a.length ∧ okP (mX a s f).p = true) ∧ (0 ≤ (mY b st s f).tet → (mY b st s f).tet < b.length ∧ okP (mY b st s f).p = true) := by
  have hl := h.lab s hs
  have hsa := h.pst.mem s hs
  have hsb : (st.to.getD s 0).toNat < b.length := by omega
  have hp4 := p4_range hl.2.2.1 (f := f)
  refine ⟨hsa, hsb, hp4, fun h0 => ⟨okG_hi ha hsa hf h0, (okG_glued ha hsa hf h0).ok⟩, fun h0 => ?_⟩
  have hF := okG_glued hb hsb hp4 h0
  exact ⟨hF.hi, hF.ok⟩
theorem mY_put {b : Glu} {st : MSt} {w v f : Nat} {y : Int} {p : P4} (h : w ≠ v) : mY b (mPut st w y p) v f = mY b st v f := by
  rw [mY, mY, mPut]
  show fAt b ((st.to.set w y).getD v 0).toNat ((pAt (st.by'.set w p) v).at f).toNat = _
  rw [getD_set_ne' h, pAt_set_ne h]
theorem mWant_put {a b : Glu} {st : MSt} {w v f : Nat} {y : Int} {p : P4} (h : w ≠ v) : mWant a b (mPut st w y p) v f = mWant a b st v f := by
  rw [mWant, mWant, mY_put h]
  show compP _ (compP (pAt (st.by'.set w p) v) _) = _
  rw [pAt_set_ne h]
theorem mFace_J {a b : Glu} (ha : okG a = true) (hb : okG b = true) {t0 i f s : Nat} {st st' : MSt} (h : MJ a b t0 (4 * i + f) st) (hs : st.q[i]? = some s) (hf : f < 4) (he : mFace a b s f st = some st') : MJ a b t0 (4 * i + f + 1) st' := by
  have hsm : s ∈ st.q := List.mem_of_getElem? hs
  obtain ⟨hsa, hsb, hp4, hX, hY⟩ := h.faces ha hb hsm hf
  by_cases hfr : (mX a s f).tet < 0 ∨ (mY b st s f).tet < 0
  · by_cases heq : (mX a s f).tet = (mY b st s f).tet
    · rw [mFace_free hfr heq] at he
      cases he
      refine ⟨h.pst, h.lby, h.ltk, h.lab, h.inq, h.taken, h.inj, fun j v f' hj hv hf' => ?_, fun j v f' hj hv hf' h1 => ?_⟩
      · rcases Nat.lt_or_ge (4 * j + f') (4 * i + f) with h2 | h2
        · exact h.free j v f' h2 hv hf'
        · obtain ⟨rfl, rfl⟩ : j = i ∧ f' = f := by omega
          rw [hs] at hv; cases hv; rw [heq]
      · rcases Nat.lt_or_ge (4 * j + f') (4 * i + f) with h2 | h2
        · exact h.glue j v f' h2 hv hf' h1
        · obtain ⟨rfl, rfl⟩ : j = i ∧ f' = f := by omega
          rw [hs] at hv; cases hv; omega
    · rw [mFace_differ hfr heq] at he; cases he
  · have hx0 : 0 ≤ (mX a s f).tet := by omega
    have hy0 : 0 ≤ (mY b st s f).tet := by omega
    obtain ⟨hxa, hxp⟩ := hX hx0
    obtain ⟨hyb, hyp⟩ := hY hy0
    by_cases hz : st.to.getD (mX a s f).tet.toNat 0 < 0
    · cases hk : st.tk.getD (mY b st s f).tet.toNat false
      · rw [mFace_new hfr hz hk] at he
        cases he
        have hwn : (mX a s f).tet.toNat ∉ st.q := fun hm => by have := (h.lab _ hm).1; omega
        have hcn : Cn a t0 (mX a s f).tet.toNat := ((h.lab s hsm).2.2.2).step hsa hf hx0
        have hwok : okP (mWant a b st s f) = true := comp_ok hyp (comp_ok (h.lab s hsm).2.2.1 (invP_ok hxp))
        have hws : (mX a s f).tet.toNat ≠ s := fun e => hwn (by rw [e]; exact hsm)
        have hnt : ∀ v, v ∈ st.q → st.to.getD v 0 ≠ (mY b st s f).tet := fun v hv e => by
          have := (h.taken (mY b st s f).tet.toNat (by omega)).2 ⟨v, hv, by rw [e]; omega⟩
          rw [hk] at this; cases this
        have hwantP := mWant_put (a := a) (b := b) (st := st) (v := s) (f := f) (y := (mY b st s f).tet) (p := mWant a b st s f) hws
        have hyP := mY_put (b := b) (st := st) (v := s) (f := f) (y := (mY b st s f).tet) (p := mWant a b st s f) hws
        have hxr : mX a s f = fAt a s f := rfl
        generalize hw : (mX a s f).tet.toNat = w at hz hwn hcn hws hxa hwantP hyP ⊢
        generalize hyy : (mY b st s f).tet = y at hk hy0 hyb hnt hwantP hyP ⊢
        generalize hpp : mWant a b st s f = p at hwok hwantP hyP ⊢
        have hl : w < st.to.length := by rw [h.pst.len]; exact hxa
        have hlb : w < st.by'.length := by rw [h.lby]; exact hxa
        have hlk : y.toNat < st.tk.length := by rw [h.ltk]; omega
        have hne : ∀ v, v ∈ st.q → w ≠ v := fun v hv e => hwn (e ▸ hv)
        have hil := (List.getElem?_eq_some_iff.1 hs).1
        have hpre : ∀ j v f', 4 * j + f' < 4 * i + f + 1 → (st.q ++ [w])[j]? = some v → f' < 4 → st.q[j]? = some v := fun j v f' hj hv hf' => by
          rwa [List.getElem?_append_left (by omega)] at hv
        have hst : PSt a (st.to.set w y, st.q ++ [w]) := by
          have hroom := negs_set (out := st.to) (b := w) (k := y) hl hz hy0
          refine ⟨by simp [h.pst.len], fun u hu => ?_, ?_⟩
          · rcases List.mem_append.1 hu with hu | hu
            · exact h.pst.mem u hu
            · rw [List.mem_singleton.1 hu]; exact hxa
          · have := h.pst.room
            have this : st.q.length + negs st.to ≤ a.length := this
            show (st.q ++ [w]).length + negs (st.to.set w y) ≤ a.length
            simp only [List.length_append, List.length_singleton]; omega
        refine ⟨hst, by simp [mPut, h.lby], by simp [mPut, h.ltk], fun v hv => ?_, fun v hv h0 => ?_, fun u hu => ?_, fun v v' hv hv' e => ?_, fun j v f' hj hv hf' => ?_, fun j v f' hj hv hf' h1 => ?_⟩
        · rcases List.mem_append.1 hv with hv | hv
          · show 0 ≤ (st.to.set w y).getD v 0 ∧ (st.to.set w y).getD v 0 < b.length ∧ okP (pAt (st.by'.set w p) v) = true ∧ Cn a t0 v
            rw [getD_set_ne' (hne v hv), pAt_set_ne (hne v hv)]; exact h.lab v hv
          · obtain rfl := List.mem_singleton.1 hv
            show 0 ≤ (st.to.set v y).getD v 0 ∧ (st.to.set v y).getD v 0 < b.length ∧ okP (pAt (st.by'.set v p) v) = true ∧ Cn a t0 v
            rw [getD_set_self' hl, pAt_set_self hlb]
            exact ⟨hy0, hyb, hwok, hcn⟩
        · by_cases e : w = v
          · exact List.mem_append.2 (.inr (by simp [e]))
          · have h0 : 0 ≤ (st.to.set w y).getD v 0 := h0
            rw [getD_set_ne' e] at h0
            exact List.mem_append.2 (.inl (h.inq v hv h0))
        · show (st.tk.set y.toNat true).getD u false = true ↔ ∃ v, v ∈ st.q ++ [w] ∧ (st.to.set w y).getD v 0 = (u : Int)
          by_cases e : y.toNat = u
          · subst e
            rw [getB_set_self hlk]
            exact ⟨fun _ => ⟨w, List.mem_append.2 (.inr (by simp)), by rw [getD_set_self' hl]; omega⟩, fun _ => rfl⟩
          · rw [getB_set_ne e, h.taken u hu]
            constructor
            · rintro ⟨v, hv, e2⟩
              exact ⟨v, List.mem_append.2 (.inl hv), by rw [getD_set_ne' (hne v hv)]; exact e2⟩
            · rintro ⟨v, hv, e2⟩
              rcases List.mem_append.1 hv with hv | hv
              · rw [getD_set_ne' (hne v hv)] at e2; exact ⟨v, hv, e2⟩
              · obtain rfl := List.mem_singleton.1 hv
                rw [getD_set_self' hl] at e2; omega
        · have e : (st.to.set w y).getD v 0 = (st.to.set w y).getD v' 0 := e
          rcases List.mem_append.1 hv with k1 | k1 <;> rcases List.mem_append.1 hv' with k2 | k2
          · rw [getD_set_ne' (hne v k1), getD_set_ne' (hne v' k2)] at e; exact h.inj v v' k1 k2 e
          · have e2 : v' = w := List.mem_singleton.1 k2
            rw [e2, getD_set_ne' (hne v k1), getD_set_self' hl] at e; exact absurd e (hnt v k1)
          · have e2 : v = w := List.mem_singleton.1 k1
            rw [e2, getD_set_ne' (hne v' k2), getD_set_self' hl] at e; exact absurd e.symm (hnt v' k2)
          · rw [List.mem_singleton.1 k1, List.mem_singleton.1 k2]
        · have hv' := hpre j v f' hj hv hf'
          have hvq := List.mem_of_getElem? hv'
          show (mX a v f').tet < 0 ↔ (mY b (mPut st w y p) v f').tet < 0
          rw [mY_put (hne v hvq)]
          rcases Nat.lt_or_ge (4 * j + f') (4 * i + f) with h2 | h2
          · exact h.free j v f' h2 hv' hf'
          · obtain ⟨rfl, rfl⟩ : j = i ∧ f' = f := by omega
            rw [hs] at hv'; cases hv'; omega
        · have hv' := hpre j v f' hj hv hf'
          have hvq := List.mem_of_getElem? hv'
          show (st.to.set w y).getD (mX a v f').tet.toNat 0 = (mY b (mPut st w y p) v f').tet ∧ pAt (st.by'.set w p) (mX a v f').tet.toNat = mWant a b (mPut st w y p) v f' ∧ (mX a v f').tet.toNat ∈ st.q ++ [w]
          rw [mY_put (hne v hvq), mWant_put (hne v hvq)]
          rcases Nat.lt_or_ge (4 * j + f') (4 * i + f) with h2 | h2
          · obtain ⟨g1, g2, g3⟩ := h.glue j v f' h2 hv' hf' h1
            rw [getD_set_ne' (hne _ g3), pAt_set_ne (hne _ g3)]
            exact ⟨g1, g2, List.mem_append.2 (.inl g3)⟩
          · obtain ⟨rfl, rfl⟩ : j = i ∧ f' = f := by omega
            rw [hs] at hv'; cases hv'
            rw [hw, getD_set_self' hl, pAt_set_self hlb, hyy, hpp]
            exact ⟨rfl, rfl, List.mem_append.2 (.inr (by simp))⟩
      · rw [mFace_taken hfr hz hk] at he; cases he
    · by_cases hsame : st.to.getD (mX a s f).tet.toNat 0 = (mY b st s f).tet ∧ pAt st.by' (mX a s f).tet.toNat = mWant a b st s f
      · rw [mFace_same hfr hz hsame.1 hsame.2] at he
        cases he
        refine ⟨h.pst, h.lby, h.ltk, h.lab, h.inq, h.taken, h.inj, fun j v f' hj hv hf' => ?_, fun j v f' hj hv hf' h1 => ?_⟩
        · rcases Nat.lt_or_ge (4 * j + f') (4 * i + f) with h2 | h2
          · exact h.free j v f' h2 hv hf'
          · obtain ⟨rfl, rfl⟩ : j = i ∧ f' = f := by omega
            rw [hs] at hv; cases hv; omega
        · rcases Nat.lt_or_ge (4 * j + f') (4 * i + f) with h2 | h2
          · exact h.glue j v f' h2 hv hf' h1
          · obtain ⟨rfl, rfl⟩ : j = i ∧ f' = f := by omega
            rw [hs] at hv; cases hv
            exact ⟨hsame.1, hsame.2, h.inq _ hxa (by omega)⟩
      · rw [mFace_bad hfr hz hsame] at he; cases he
theorem mFace_pre {a b : Glu} {s f i u : Nat} {st st' : MSt} (h : st.q[i]? = some u) (he : mFace a b s f st = some st') : st'.q[i]? = some u := by
  rw [mFace] at he
  split at he
  · split at he
    · cases he; exact h
    · cases he
  · split at he
    · split at he
      · cases he
      · cases he
        show (st.q ++ _)[i]? = _
        rw [List.getElem?_append_left (List.getElem?_eq_some_iff.1 h).1]; exact h
    · split at he
      · cases he; exact h
      · cases he
theorem mTo_J {a b : Glu} (ha : okG a = true) (hb : okG b = true) {t0 i s : Nat} {st : MSt} (h : MJ a b t0 (4 * i) st) (hs : st.q[i]? = some s) : ∀ f, f ≤ 4 → ∀ {st'}, mTo a b s st f = some st' → MJ a b t0 (4 * i + f) st' ∧ st'.q[i]? = some s
  | 0, _, st', he => by cases he; exact ⟨h, hs⟩
  | f + 1, hf, st', he => by
    rw [mTo] at he
    obtain ⟨s1, h1, h2⟩ := Option.bind_eq_some_iff.1 he
    obtain ⟨k1, k2⟩ := mTo_J ha hb h hs f (by omega) h1
    exact ⟨mFace_J ha hb k1 k2 (by omega) h2, mFace_pre k2 h2⟩
theorem mBfs_step {a b : Glu} {k i s : Nat} {st : MSt} (h : st.q[i]? = some s) : mBfs a b (k + 1) i st = (mTo a b s st 4).bind (mBfs a b k (i + 1)) := by
  have hi : i < st.q.length := (List.getElem?_eq_some_iff.1 h).1
  rw [mBfs, if_pos hi, List.getD_eq_getElem?_getD, h]; rfl
theorem mBfs_done {a b : Glu} {k i : Nat} {st : MSt} (h : ¬ i < st.q.length) : mBfs a b k i st = some st := by
  cases k
  · rfl
  · rw [mBfs, if_neg h]
theorem mBfs_J {a b : Glu} (ha : okG a = true) (hb : okG b = true) {t0 : Nat} : ∀ (k i : Nat) {st st' : MSt}, MJ a b t0 (4 * i) st → i + k = a.length → mBfs a b k i st = some st' → ∃ n, 4 * st'.q.length ≤ n ∧ MJ a b t0 n st'
  | 0, i, st, st', h, hk, he => by
    have hr : st.q.length + negs st.to ≤ a.length := h.pst.room
    have hq : 4 * st.q.length ≤ 4 * i := by omega
    cases he; exact ⟨4 * i, hq, h⟩
  | k + 1, i, st, st', h, hk, he => by
    by_cases hi : i < st.q.length
    · have hs := getD_nat hi
      rw [mBfs_step hs] at he
      obtain ⟨s1, h1, h2⟩ := Option.bind_eq_some_iff.1 he
      exact mBfs_J ha hb k (i + 1) (mTo_J ha hb h hs 4 (Nat.le_refl 4) h1).1 (by omega) h2
    · rw [mBfs_done hi] at he
      cases he; exact ⟨4 * i, by omega, h⟩
theorem MJ.start {a b : Glu} {t u : Nat} {p : P4} (ht : t < a.length) (hu : u < b.length) (hp : okP p = true) : MJ a b t (4 * 0) (mStart a b t u p) := by
  have hr : ∀ v, t ≠ v → v < a.length → ((List.replicate a.length (-1 : Int)).set t u).getD v 0 = -1 := fun v hv hva => by
    rw [getD_set_ne' hv]; simp [List.getD_eq_getElem?_getD, hva]
  have hts : ((List.replicate a.length (-1 : Int)).set t u).getD t 0 = u := getD_set_self' (by simpa using ht)
  refine ⟨PSt.start (by simp) ht (by omega) (by simp [List.getD_eq_getElem?_getD, ht]), by simp [mStart], by simp [mStart], fun v hv => ?_, fun v hv h0 => ?_, fun w hw => ?_, fun v v' hv hv' _ => ?_, fun j v f hj => by omega, fun j v f hj => by omega⟩
  · obtain rfl := List.mem_singleton.1 hv
    show 0 ≤ ((List.replicate a.length (-1 : Int)).set v u).getD v 0 ∧ ((List.replicate a.length (-1 : Int)).set v u).getD v 0 < b.length ∧ okP (pAt ((List.replicate a.length zP).set v p) v) = true ∧ Cn a v v
    rw [hts, pAt_set_self (by simpa using ht)]
    exact ⟨by omega, by omega, hp, .refl _⟩
  · by_cases e : t = v
    · exact List.mem_singleton.2 e.symm
    · have h0 : 0 ≤ ((List.replicate a.length (-1 : Int)).set t u).getD v 0 := h0
      rw [hr v e hv] at h0; exact absurd h0 (by decide)
  · show ((List.replicate b.length false).set u true).getD w false = true ↔ ∃ v, v ∈ [t] ∧ ((List.replicate a.length (-1 : Int)).set t u).getD v 0 = (w : Int)
    by_cases e : u = w
    · subst e
      rw [getB_set_self (by simpa using hu)]
      exact ⟨fun _ => ⟨t, by simp, hts⟩, fun _ => rfl⟩
    · rw [getB_set_ne e]
      constructor
      · intro h; simp [List.getD_eq_getElem?_getD, hw] at h
      · rintro ⟨v, hv, e2⟩
        obtain rfl := List.mem_singleton.1 hv
        rw [hts] at e2; omega
  · rw [List.mem_singleton.1 hv, List.mem_singleton.1 hv']
theorem mBfs_mem {a b : Glu} {t : Nat} : ∀ (k i : Nat) {st st' : MSt}, st.q[0]? = some t → mBfs a b k i st = some st' → st'.q[0]? = some t
  | 0, _, _, _, hs, he => by cases he; exact hs
  | k + 1, i, st, st', hs, he => by
    rw [mBfs] at he
    split at he
    · obtain ⟨s1, h1, h2⟩ := Option.bind_eq_some_iff.1 he
      refine mBfs_mem k (i + 1) ?_ h2
      have key : ∀ f {st1}, mTo a b (st.q.getD i 0) st f = some st1 → st1.q[0]? = some t := by
        intro f
        induction f with
        | zero => intro st1 h; cases h; exact hs
        | succ f ih =>
          intro st1 h
          rw [mTo] at h
          obtain ⟨s2, k1, k2⟩ := Option.bind_eq_some_iff.1 h
          exact mFace_pre (ih k1) k2
      exact key 4 h1
    · cases he; exact hs
/-- What has been given to a tetrahedron stays. -/
theorem mFace_keep {a b : Glu} {s f v : Nat} {st st' : MSt} (hv : 0 ≤ st.to.getD v 0) (he : mFace a b s f st = some st') : st'.to.getD v 0 = st.to.getD v 0 := by
  rw [mFace] at he
  split at he
  · split at he
    · cases he; rfl
    · cases he
  · split at he
    · split at he
      · cases he
      · rename_i hz _
        cases he
        exact getD_set_ne' (fun e => by rw [e] at hz; omega)
    · split at he
      · cases he; rfl
      · cases he
theorem mTo_keep {a b : Glu} {s v : Nat} {st : MSt} (hv : 0 ≤ st.to.getD v 0) : ∀ f {st'}, mTo a b s st f = some st' → st'.to.getD v 0 = st.to.getD v 0
  | 0, st', he => by cases he; rfl
  | f + 1, st', he => by
    rw [mTo] at he
    obtain ⟨s1, h1, h2⟩ := Option.bind_eq_some_iff.1 he
    have k := mTo_keep hv f h1
    rw [mFace_keep (by rw [k]; exact hv) h2, k]
theorem mBfs_keep {a b : Glu} {v : Nat} : ∀ (k i : Nat) {st st' : MSt}, 0 ≤ st.to.getD v 0 → mBfs a b k i st = some st' → st'.to.getD v 0 = st.to.getD v 0
  | 0, _, _, _, _, he => by cases he; rfl
  | k + 1, i, st, st', hv, he => by
    rw [mBfs] at he
    split at he
    · obtain ⟨s1, h1, h2⟩ := Option.bind_eq_some_iff.1 he
      have e := mTo_keep hv 4 h1
      rw [mBfs_keep k (i + 1) (by rw [e]; exact hv) h2, e]
    · cases he; rfl
/-- What the search finds carries the part. -/
theorem match_iso {a b : Glu} (ha : okG a = true) (hb : okG b = true) {t u : Nat} {p : P4} (ht : t < a.length) (hu : u < b.length) (hp : okP p = true) (h : matchG a b t u p = true) : Iso a b t u := by
  obtain ⟨st, he⟩ := Option.isSome_iff_exists.1 h
  obtain ⟨n, hn, hJ⟩ := mBfs_J ha hb a.length 0 (MJ.start ht hu hp) (by omega) he
  have hts : (mStart a b t u p).to.getD t 0 = u := getD_set_self' (by simpa using ht)
  have hroot := mBfs_keep a.length 0 (v := t) (by rw [hts]; omega) he
  rw [hts] at hroot
  have htq : t ∈ st.q := List.mem_of_getElem? (mBfs_mem a.length 0 rfl he)
  have hall : ∀ v, Cn a t v → v ∈ st.q := fun v hv => by
    induction hv with
    | refl => exact htq
    | step hv hu2 hf h0 ih =>
      obtain ⟨j, hj⟩ := List.getElem?_of_mem ih
      have hjl := (List.getElem?_eq_some_iff.1 hj).1
      exact (hJ.glue j _ _ (by omega) hj hf h0).2.2
  refine ⟨fun v => (st.to.getD v 0).toNat, fun v => pAt st.by' v, by show (st.to.getD t 0).toNat = u; rw [hroot]; simp, fun v hv => ?_, fun v v' hv hv' e => ?_, fun v f hv hf => ?_, fun v f hv hf h0 => ?_⟩
  · have hl := hJ.lab v (hall v hv)
    exact ⟨by show (st.to.getD v 0).toNat < _; omega, hl.2.2.1⟩
  · have hl := hJ.lab v (hall v hv); have hl' := hJ.lab v' (hall v' hv')
    have e : (st.to.getD v 0).toNat = (st.to.getD v' 0).toNat := e
    exact hJ.inj v v' (hall v hv) (hall v' hv') (by omega)
  · obtain ⟨j, hj⟩ := List.getElem?_of_mem (hall v hv)
    have hjl := (List.getElem?_eq_some_iff.1 hj).1
    exact hJ.free j v f (by omega) hj hf
  · obtain ⟨j, hj⟩ := List.getElem?_of_mem (hall v hv)
    have hjl := (List.getElem?_eq_some_iff.1 hj).1
    obtain ⟨g1, g2, g3⟩ := hJ.glue j v f (by omega) hj hf h0
    have hl := (hJ.lab _ g3).1
    refine ⟨?_, g2⟩
    show (mY b st v f).tet = ((st.to.getD (mX a v f).tet.toNat 0).toNat : Int)
    omega
/-- The search does not fail where the part can be carried. -/
theorem mFace_go {a b : Glu} (ha : okG a = true) (hb : okG b = true) {t0 u0 i f s : Nat} {st : MSt} {τ : Nat → Nat} {π : Nat → P4} (hm : Mt a b t0 u0 τ π) (h : MJ a b t0 (4 * i + f) st) (hr : ∀ v ∈ st.q, st.to.getD v 0 = τ v ∧ pAt st.by' v = π v) (hs : st.q[i]? = some s) (hf : f < 4) :
    ∃ st', mFace a b s f st = some st' ∧ ∀ v ∈ st'.q, st'.to.getD v 0 = τ v ∧ pAt st'.by' v = π v := by
  have hsm : s ∈ st.q := List.mem_of_getElem? hs
  have hcn := (h.lab s hsm).2.2.2
  obtain ⟨e1, e2⟩ := hr s hsm
  have eY : mY b st s f = fAt b (τ s) ((π s).at f).toNat := by rw [mY, e1, e2, Int.toNat_natCast]
  have hfree := hm.free s f hcn hf
  rw [← eY] at hfree
  have hfree : (mX a s f).tet < 0 ↔ (mY b st s f).tet < 0 := hfree
  obtain ⟨hsa, hsb, hp4, hX, hY⟩ := h.faces ha hb hsm hf
  by_cases hx : (mX a s f).tet < 0
  · have hy := hfree.1 hx
    refine ⟨st, mFace_free (.inl hx) ?_, hr⟩
    have k1 : mX a s f = noF := okG_free ha hsa hf hx
    have k2 : mY b st s f = noF := okG_free hb hsb hp4 hy
    rw [k1, k2]
  · have hy : ¬ (mY b st s f).tet < 0 := fun h2 => hx (hfree.2 h2)
    have hfr : ¬ ((mX a s f).tet < 0 ∨ (mY b st s f).tet < 0) := by omega
    have hg := hm.glue s f hcn hf (by have hx : ¬ (fAt a s f).tet < 0 := hx; omega)
    rw [← eY] at hg
    have g1 : (mY b st s f).tet = (τ (mX a s f).tet.toNat : Int) := hg.1
    have g2 : π (mX a s f).tet.toNat = mWant a b st s f := by rw [mWant, e2]; exact hg.2
    have hcx : Cn a t0 (mX a s f).tet.toNat := hcn.step hsa hf (by have hx : ¬ (fAt a s f).tet < 0 := hx; omega)
    obtain ⟨hxa, _⟩ := hX (by omega)
    by_cases hz : st.to.getD (mX a s f).tet.toNat 0 < 0
    · have hk : st.tk.getD (mY b st s f).tet.toNat false = false := by
        cases hk : st.tk.getD (mY b st s f).tet.toNat false
        · rfl
        · exfalso
          obtain ⟨hyb, _⟩ := hY (by omega)
          obtain ⟨v, hv, e⟩ := (h.taken (mY b st s f).tet.toNat (by omega)).1 hk
          rw [(hr v hv).1, g1] at e
          have := hm.inj v _ (h.lab v hv).2.2.2 hcx (Int.ofNat_inj.1 (by simpa using e))
          have h3 := (h.lab v hv).1
          rw [this] at h3; omega
      refine ⟨_, mFace_new hfr hz hk, fun v hv => ?_⟩
      have hl : (mX a s f).tet.toNat < st.to.length := by rw [h.pst.len]; exact hxa
      have hlb : (mX a s f).tet.toNat < st.by'.length := by rw [h.lby]; exact hxa
      by_cases e : (mX a s f).tet.toNat = v
      · subst e
        show (st.to.set _ _).getD _ 0 = _ ∧ pAt (st.by'.set _ _) _ = _
        rw [getD_set_self' hl, pAt_set_self hlb]
        exact ⟨g1, g2.symm⟩
      · show (st.to.set _ _).getD v 0 = _ ∧ pAt (st.by'.set _ _) v = _
        rw [getD_set_ne' e, pAt_set_ne e]
        rcases List.mem_append.1 hv with hv | hv
        · exact hr v hv
        · exact absurd (List.mem_singleton.1 hv).symm e
    · have hq := h.inq _ hxa (by omega)
      obtain ⟨k1, k2⟩ := hr _ hq
      exact ⟨st, mFace_same hfr hz (by rw [k1, g1]) (by rw [k2, g2]), hr⟩
theorem mTo_go {a b : Glu} (ha : okG a = true) (hb : okG b = true) {t0 u0 i s : Nat} {st : MSt} {τ : Nat → Nat} {π : Nat → P4} (hm : Mt a b t0 u0 τ π) (h : MJ a b t0 (4 * i) st) (hr : ∀ v ∈ st.q, st.to.getD v 0 = τ v ∧ pAt st.by' v = π v) (hs : st.q[i]? = some s) : ∀ f, f ≤ 4 →
    ∃ st', mTo a b s st f = some st' ∧ ∀ v ∈ st'.q, st'.to.getD v 0 = τ v ∧ pAt st'.by' v = π v
  | 0, _ => ⟨st, rfl, hr⟩
  | f + 1, hf => by
    obtain ⟨s1, h1, r1⟩ := mTo_go ha hb hm h hr hs f (by omega)
    obtain ⟨k1, k2⟩ := mTo_J ha hb h hs f (by omega) h1
    obtain ⟨s2, h2, r2⟩ := mFace_go ha hb hm k1 r1 k2 (by omega)
    exact ⟨s2, by rw [mTo, h1]; exact h2, r2⟩
theorem mBfs_go {a b : Glu} (ha : okG a = true) (hb : okG b = true) {t0 u0 : Nat} {τ : Nat → Nat} {π : Nat → P4} (hm : Mt a b t0 u0 τ π) : ∀ (k i : Nat) {st : MSt}, MJ a b t0 (4 * i) st → (∀ v ∈ st.q, st.to.getD v 0 = τ v ∧ pAt st.by' v = π v) → ∃ st', mBfs a b k i st = some st'
  | 0, i, st, _, _ => ⟨st, rfl⟩
  | k + 1, i, st, h, hr => by
    by_cases hi : i < st.q.length
    · have hs := getD_nat hi
      obtain ⟨s1, h1, r1⟩ := mTo_go ha hb hm h hr hs 4 (Nat.le_refl 4)
      obtain ⟨s2, h2⟩ := mBfs_go ha hb hm k (i + 1) (mTo_J ha hb h hs 4 (Nat.le_refl 4) h1).1 r1
      exact ⟨s2, by rw [mBfs_step hs, h1]; exact h2⟩
    · exact ⟨st, mBfs_done hi⟩
theorem iso_match {a b : Glu} (ha : okG a = true) (hb : okG b = true) {t u : Nat} {τ : Nat → Nat} {π : Nat → P4} (ht : t < a.length) (hm : Mt a b t u τ π) : matchG a b t u (π t) = true := by
  have hr := hm.rng t (.refl _)
  rw [hm.root] at hr
  obtain ⟨st, h⟩ := mBfs_go ha hb hm a.length 0 (MJ.start ht hr.1 hr.2) (fun v hv => by
    obtain rfl := List.mem_singleton.1 hv
    show ((List.replicate a.length (-1 : Int)).set v u).getD v 0 = _ ∧ pAt ((List.replicate a.length zP).set v (π v)) v = _
    rw [getD_set_self' (by simpa using ht), pAt_set_self (by simpa using ht), hm.root]
    exact ⟨rfl, rfl⟩)
  rw [matchG, h]; rfl
end Go.V
/- Parts are matched one after the other. -/
namespace Go.V
open Go
/-- The number of a tetrahedron's part. -/
def lb (g : Glu) (t : Nat) : Nat := ((partsOf g).getD t 0).toNat
def pn (g : Glu) : Nat := (partsN g).toNat
theorem lb_lt {g : Glu} (hg : okG g = true) {t : Nat} (ht : t < g.length) : lb g t < pn g := by
  have := parts_rng hg ht; rw [lb, pn]; omega
theorem lb_iff {g : Glu} (hg : okG g = true) {t u : Nat} (ht : t < g.length) (hu : u < g.length) : lb g t = lb g u ↔ Cn g t u := by
  rw [← parts_iff hg ht hu]
  have := parts_rng hg ht; have := parts_rng hg hu
  rw [lb, lb]; omega
theorem lb_val {g : Glu} (hg : okG g = true) {t : Nat} (ht : t < g.length) : (partsOf g).getD t 0 = (lb g t : Int) := by
  have := parts_rng hg ht; rw [lb]; omega
theorem lb_onto {g : Glu} (hg : okG g = true) {i : Nat} (hi : i < pn g) : ∃ t, t < g.length ∧ lb g t = i := by
  obtain ⟨v, hv, e⟩ := (parts_A hg).onto i (by omega) (by show (i : Int) < partsN g; rw [pn] at hi; omega)
  have e : (partsOf g).getD v 0 = (i : Int) := e
  exact ⟨v, hv, by rw [lb, e]; simp⟩
theorem partsN_le' {g : Glu} (hg : okG g = true) : partsN g ≤ g.length := (pAll_ok hg g.length (Nat.le_refl _)).2.2
/-- Part i of a and part r of b are equal but for a renumbering. -/
def IsoP (a b : Glu) (i r : Nat) : Prop := ∃ t u, t < a.length ∧ u < b.length ∧ lb a t = i ∧ lb b u = r ∧ Iso a b t u
theorem IsoP.at {a b : Glu} (ha : okG a = true) (hb : okG b = true) {i r t : Nat} (h : IsoP a b i r) (ht : t < a.length) (hi : lb a t = i) : ∃ u, u < b.length ∧ lb b u = r ∧ Iso a b t u := by
  obtain ⟨t0, u0, ht0, hu0, e1, e2, τ, π, hm⟩ := h
  have hc : Cn a t0 t := (lb_iff ha ht0 ht).1 (by rw [e1, hi])
  have hu := (hm.rng t hc).1
  refine ⟨τ t, hu, ?_, τ, π, hm.reroot hc⟩
  rw [← e2]; exact ((lb_iff hb hu0 hu).2 (hm.image hc)).symm
/-- From j to r, from i to r, from i to s: so from j to s. -/
theorem IsoP.swap {a b : Glu} (ha : okG a = true) (hb : okG b = true) {i j r s : Nat} (h1 : IsoP a b j r) (h2 : IsoP a b i r) (h3 : IsoP a b i s) : IsoP a b j s := by
  obtain ⟨tj, u, htj, hu, ej, er, k1⟩ := h1
  obtain ⟨ti, ui, hti, hui, ei, er2, k2⟩ := h2
  have k2' := Iso.symm ha hb hti hui k2
  obtain ⟨τ, π, hm⟩ := k2'
  have hc : Cn b ui u := (lb_iff hb hui hu).1 (by rw [er, er2])
  have hτ := (hm.rng u hc).1
  have k3 : Iso b a u (τ u) := ⟨τ, π, hm.reroot hc⟩
  have hl : lb a (τ u) = i := by rw [← ei]; exact ((lb_iff ha hti hτ).2 (hm.image hc)).symm
  obtain ⟨w, hw, ew, k4⟩ := h3.at ha hb hτ hl
  exact ⟨tj, w, htj, hw, ej, ew, Iso.trans ha ha htj hτ (Iso.trans ha hb htj hu k1 k3) k4⟩
/-- A matching of all parts. -/
structure PB (a b : Glu) (σ ρ : Nat → Nat) : Prop where
  s1 : ∀ i, i < pn a → σ i < pn b ∧ ρ (σ i) = i
  s2 : ∀ r, r < pn b → ρ r < pn a ∧ σ (ρ r) = r
  iso : ∀ i, i < pn a → IsoP a b i (σ i)
def upd (f : Nat → Nat) (i v : Nat) : Nat → Nat := fun k => if k = i then v else f k
/-- It may be changed so that i is matched with r. -/
theorem PB.change {a b : Glu} (ha : okG a = true) (hb : okG b = true) {σ ρ : Nat → Nat} (h : PB a b σ ρ) {i r : Nat} (hi : i < pn a) (hr : r < pn b) (hir : IsoP a b i r) :
    PB a b (upd (upd σ (ρ r) (σ i)) i r) (upd (upd ρ (σ i) (ρ r)) r i) := by
  have hj := h.s2 r hr
  have hs := h.s1 i hi
  by_cases e : ρ r = i
  · have e2 : σ i = r := by rw [← e]; exact hj.2
    refine ⟨fun k hk => ?_, fun k hk => ?_, fun k hk => ?_⟩
    · by_cases e3 : k = i
      · subst e3; simp [upd, hr]
      · have := h.s1 k hk
        have e4 : σ k ≠ r := fun e5 => e3 (by rw [← this.2, e5, e])
        simp only [upd, e3, e, if_false, e2, e4]
        exact this
    · by_cases e3 : k = r
      · subst e3; simp [upd, hi]
      · have := h.s2 k hk
        have e4 : ρ k ≠ i := fun e5 => e3 (by rw [← this.2, e5, e2])
        simp only [upd, e3, e2, if_false, e, e4]
        exact this
    · by_cases e3 : k = i
      · subst e3; simpa [upd] using hir
      · simp only [upd, e3, if_false, e]; exact h.iso k hk
  · have e2 : σ i ≠ r := fun e3 => e (by rw [← e3]; exact hs.2)
    refine ⟨fun k hk => ?_, fun k hk => ?_, fun k hk => ?_⟩
    · by_cases e3 : k = i
      · subst e3; simp [upd, hr]
      · by_cases e4 : k = ρ r
        · subst e4; simp [upd, e3, e2, hs.1]
        · have := h.s1 k hk
          have e5 : σ k ≠ r := fun e6 => e4 (by rw [← e6, this.2])
          have e6 : σ k ≠ σ i := fun e6 => e3 (by rw [← this.2, e6, hs.2])
          simp only [upd, e3, e4, if_false, e5, e6]
          exact this
    · by_cases e3 : k = r
      · subst e3; simp [upd, hi]
      · by_cases e4 : k = σ i
        · subst e4; simp [upd, e3, e, hj.1]
        · have := h.s2 k hk
          have e5 : ρ k ≠ i := fun e6 => e4 (by rw [← e6, this.2])
          have e6 : ρ k ≠ ρ r := fun e6 => e3 (by rw [← this.2, e6, hj.2])
          simp only [upd, e3, e4, if_false, e5, e6]
          exact this
    · by_cases e3 : k = i
      · subst e3; simpa [upd] using hir
      · by_cases e4 : k = ρ r
        · subst e4
          simp only [upd, e3, if_false, if_true]
          have k := h.iso (ρ r) hj.1
          rw [hj.2] at k
          exact IsoP.swap ha hb k hir (h.iso i hi)
        · simp only [upd, e3, e4, if_false]; exact h.iso k hk
def anyP (np : Nat → P4) (a b : Glu) (t u : Nat) : Nat → Bool
  | 0 => false
  | k + 1 => anyP np a b t u k || matchG a b t u (np k)
/-- The first tetrahedron from i on of a free part that matches. -/
def findU (np : Nat → P4) (a b : Glu) (m : List Int) (used : List Bool) (t : Nat) : Nat → Nat → Option Nat
  | 0, _ => none
  | k + 1, i => if used.getD (m.getD i 0).toNat false = false ∧ anyP np a b t i 24 = true then some i else findU np a b m used t k (i + 1)
def seenB (l : List Int) (t : Nat) : Nat → Bool
  | 0 => false
  | k + 1 => seenB l t k || decide (l.getD k 0 = l.getD t 0)
def rnStep (np : Nat → P4) (a b : Glu) (l m : List Int) (t : Nat) (used : List Bool) : Option (List Bool) :=
  if seenB l t t = true then some used else (findU np a b m used t m.length 0).map fun u => used.set (m.getD u 0).toNat true
def rnT (np : Nat → P4) (a b : Glu) (l m : List Int) : Nat → Option (List Bool)
  | 0 => some (List.replicate m.length false)
  | t + 1 => (rnT np a b l m t).bind (rnStep np a b l m t)
theorem anyP_iff {np : Nat → P4} {a b : Glu} {t u : Nat} : ∀ k, anyP np a b t u k = true ↔ ∃ j, j < k ∧ matchG a b t u (np j) = true
  | 0 => by simp [anyP]
  | k + 1 => by
    rw [anyP, Bool.or_eq_true, anyP_iff k]
    constructor
    · rintro (⟨j, hj, h⟩ | h)
      · exact ⟨j, by omega, h⟩
      · exact ⟨k, by omega, h⟩
    · rintro ⟨j, hj, h⟩
      rcases Nat.lt_or_ge j k with h1 | h1
      · exact .inl ⟨j, h1, h⟩
      · obtain rfl : j = k := by omega
        exact .inr h
theorem seenB_iff {l : List Int} {t : Nat} : ∀ k, seenB l t k = true ↔ ∃ j, j < k ∧ l.getD j 0 = l.getD t 0
  | 0 => by simp [seenB]
  | k + 1 => by
    rw [seenB, Bool.or_eq_true, seenB_iff k, decide_eq_true_eq]
    constructor
    · rintro (⟨j, hj, h⟩ | h)
      · exact ⟨j, by omega, h⟩
      · exact ⟨k, by omega, h⟩
    · rintro ⟨j, hj, h⟩
      rcases Nat.lt_or_ge j k with h1 | h1
      · exact .inl ⟨j, h1, h⟩
      · obtain rfl : j = k := by omega
        exact .inr h
theorem findU_some {np : Nat → P4} {a b : Glu} {m : List Int} {used : List Bool} {t : Nat} : ∀ (k i : Nat) {u}, findU np a b m used t k i = some u → i ≤ u ∧ u < i + k ∧ used.getD (m.getD u 0).toNat false = false ∧ anyP np a b t u 24 = true
  | 0, _, _, h => by cases h
  | k + 1, i, u, h => by
    rw [findU] at h
    split at h
    · rename_i hc; cases h; exact ⟨by omega, by omega, hc.1, hc.2⟩
    · have := findU_some k (i + 1) h; exact ⟨by omega, by omega, this.2.2⟩
theorem findU_go {np : Nat → P4} {a b : Glu} {m : List Int} {used : List Bool} {t u : Nat} (h1 : used.getD (m.getD u 0).toNat false = false) (h2 : anyP np a b t u 24 = true) : ∀ (k i : Nat), i ≤ u → u < i + k → ∃ v, findU np a b m used t k i = some v
  | 0, _, h, h' => by omega
  | k + 1, i, h, h' => by
    rw [findU]
    split
    · exact ⟨i, rfl⟩
    · rename_i hc
      have : i ≠ u := fun e => hc ⟨e ▸ h1, e ▸ h2⟩
      exact findU_go h1 h2 k (i + 1) (by omega) (by omega)
/-- The numbering meets each permutation. -/
structure AllP (np : Nat → P4) : Prop where
  ok : ∀ k, k < 24 → okP (np k) = true
  all : ∀ p, okP p = true → ∃ k, k < 24 ∧ np k = p
theorem rnT_go {np : Nat → P4} (hN : AllP np) {a b : Glu} (ha : okG a = true) (hb : okG b = true) (hlen : b.length ≤ a.length) {σ0 ρ0 : Nat → Nat} (h0 : PB a b σ0 ρ0) : ∀ t, t ≤ a.length →
    ∃ used σ ρ, rnT np a b (partsOf a) (partsOf b) t = some used ∧ used.length = b.length ∧ PB a b σ ρ ∧ ∀ r, r < pn b → (used.getD r false = true ↔ ∃ k, k < t ∧ σ (lb a k) = r)
  | 0, _ => ⟨List.replicate (partsOf b).length false, σ0, ρ0, rfl, by simp [parts_len hb], h0, fun r hr => by
    constructor
    · intro h
      by_cases hx : r < (partsOf b).length <;> simp [List.getD_eq_getElem?_getD, hx] at h
    · rintro ⟨k, hk, _⟩; omega⟩
  | t + 1, ht => by
    obtain ⟨used, σ, ρ, he, hul, hPB, hu⟩ := rnT_go hN ha hb hlen h0 t (by omega)
    have htN : t < a.length := by omega
    rw [rnT, he]
    show ∃ used' σ ρ, rnStep np a b (partsOf a) (partsOf b) t used = some used' ∧ _
    rw [rnStep]
    by_cases hseen : seenB (partsOf a) t t = true
    · rw [if_pos hseen]
      obtain ⟨j, hj, e⟩ := (seenB_iff t).1 hseen
      have hlj : lb a j = lb a t := by rw [lb, lb, e]
      refine ⟨used, σ, ρ, rfl, hul, hPB, fun r hr => (hu r hr).trans ⟨fun ⟨k, hk, e⟩ => ⟨k, by omega, e⟩, fun ⟨k, hk, e2⟩ => ?_⟩⟩
      rcases Nat.lt_or_ge k t with h1 | h1
      · exact ⟨k, h1, e2⟩
      · obtain rfl : k = t := by omega
        exact ⟨j, hj, by rw [hlj]; exact e2⟩
    · rw [if_neg hseen]
      have hnew : ∀ k, k < t → lb a k ≠ lb a t := fun k hk e => hseen ((seenB_iff t).2 ⟨k, hk, by rw [lb_val ha (by omega), lb_val ha htN, e]⟩)
      have hi := lb_lt ha htN
      have hσ := hPB.s1 _ hi
      -- the part that the matching names is free
      have hfree : used.getD (σ (lb a t)) false = false := by
        cases h : used.getD (σ (lb a t)) false
        · rfl
        · exfalso
          obtain ⟨k, hk, e⟩ := (hu _ hσ.1).1 h
          have hk2 := hPB.s1 _ (lb_lt ha (t := k) (by omega))
          exact hnew k hk (by rw [← hk2.2, e, hσ.2])
      obtain ⟨u, huB, eu, τ, π, hm⟩ := (hPB.iso _ hi).at ha hb htN rfl
      have hmt := iso_match ha hb htN hm
      obtain ⟨k, hk, ek⟩ := hN.all _ (hm.rng t (.refl _)).2
      obtain ⟨v, hv⟩ := findU_go (np := np) (a := a) (b := b) (m := partsOf b) (used := used) (t := t) (u := u)
        (by rw [lb_val hb huB, eu]; simpa using hfree) ((anyP_iff 24).2 ⟨k, hk, by rw [ek]; exact hmt⟩) (partsOf b).length 0 (by omega) (by rw [parts_len hb]; omega)
      rw [hv]
      obtain ⟨_, hvl, hvf, hva⟩ := findU_some _ _ hv
      have hvB : v < b.length := by rw [parts_len hb] at hvl; omega
      have hrB := lb_lt hb hvB
      obtain ⟨k', hk', hmk⟩ := (anyP_iff 24).1 hva
      have hiso : IsoP a b (lb a t) (lb b v) := ⟨t, v, htN, hvB, rfl, rfl, match_iso ha hb htN hvB (hN.ok k' hk') hmk⟩
      rw [lb_val hb hvB, Int.toNat_natCast] at hvf
      have hch := hPB.change ha hb hi hrB hiso
      have hpnb : pn b ≤ b.length := by have := partsN_le' hb; rw [pn]; omega
      refine ⟨used.set ((partsOf b).getD v 0).toNat true, _, _, rfl, by simp [hul], hch, fun r hr => ?_⟩
      rw [lb_val hb hvB, Int.toNat_natCast]
      -- old parts keep their match
      have hkeep : ∀ k, k < t → upd (upd σ (ρ (lb b v)) (σ (lb a t))) (lb a t) (lb b v) (lb a k) = σ (lb a k) := fun k hk => by
        have h1 := hnew k hk
        have h2 : lb a k ≠ ρ (lb b v) := fun e => by
          have := (hu _ hrB).2 ⟨k, hk, by rw [e]; exact (hPB.s2 _ hrB).2⟩
          rw [hvf] at this; cases this
        simp [upd, h1, h2]
      have hself : upd (upd σ (ρ (lb b v)) (σ (lb a t))) (lb a t) (lb b v) (lb a t) = lb b v := by simp [upd]
      by_cases e : lb b v = r
      · subst e
        rw [getB_set_self (by rw [hul]; omega)]
        exact ⟨fun _ => ⟨t, by omega, hself⟩, fun _ => rfl⟩
      · rw [getB_set_ne e, hu r hr]
        constructor
        · rintro ⟨k, hk, e2⟩
          exact ⟨k, by omega, by rw [hkeep k hk]; exact e2⟩
        · rintro ⟨k, hk, e2⟩
          rcases Nat.lt_or_ge k t with h1 | h1
          · exact ⟨k, h1, by rw [hkeep k h1] at e2; exact e2⟩
          · obtain rfl : k = t := by omega
            rw [hself] at e2; exact absurd e2 e
end Go.V
/- The permutations in their order. -/
namespace Go.V
open Go
def szO : Nat → Nat
  | 0 => 6
  | 1 => 2
  | _ => 1
def fac3 (k : Nat) : Nat := if k ≤ 1 then 1 else if k = 2 then 2 else 6
def nthJ (n i : Nat) : Nat := n / szO i % (4 - i)
def nthL (n : Nat) : Nat → List Int
  | 0 => [0, 1, 2, 3]
  | i + 1 => (nthL n i).take (nthJ n i) ++ (nthL n i).drop (nthJ n i + 1)
def nthV (n i : Nat) : Int := (nthL n i).getD (nthJ n i) 0
def nthP (n : Nat) : P4 := ⟨nthV n 0, nthV n 1, nthV n 2, nthV n 3⟩
theorem nthJ_lt (n : Nat) {i : Nat} (hi : i < 4) : nthJ n i < 4 - i := Nat.mod_lt _ (by omega)
theorem nthL_len (n : Nat) : ∀ i, i ≤ 4 → (nthL n i).length = 4 - i
  | 0, _ => rfl
  | i + 1, hi => by
    have h1 := nthL_len n i (by omega)
    have h2 := nthJ_lt n (i := i) (by omega)
    rw [nthL, List.length_append, List.length_take, List.length_drop, h1]; omega
theorem nthP_at (n : Nat) {i : Nat} (hi : i < 4) : (nthP n).at i = nthV n i := by
  match i, hi with
  | 0, _ => rfl
  | 1, _ => rfl
  | 2, _ => rfl
  | 3, _ => rfl
theorem nth_all : AllP nthP := by
  refine ⟨fun k hk => ?_, fun p hp => ?_⟩
  · have : (List.range 24).all (fun k => okP (nthP k)) = true := by decide +kernel
    exact List.all_eq_true.1 this k (List.mem_range.2 hk)
  · have h := all24 (Q := fun p => (List.range 24).any fun k => decide (nthP k = p)) (by decide +kernel) hp
    obtain ⟨k, hk, e⟩ := List.any_eq_true.1 h
    exact ⟨k, List.mem_range.1 hk, of_decide_eq_true e⟩
theorem fac3_sz {i k : Nat} (hi : i < 4) (h2 : 2 ≤ k) (h4 : k ≤ 2 ∨ k ≤ 4 - i) (h : ¬ (k : Int) ≤ 3 - i) : fac3 (k - 1) = szO i := by
  match i, hi with
  | 0, _ => obtain rfl : k = 4 := by omega
            rfl
  | 1, _ => obtain rfl : k = 3 := by omega
            rfl
  | 2, _ => obtain rfl : k = 2 := by omega
            rfl
  | 3, _ => obtain rfl : k = 2 := by omega
            rfl
theorem nthJ_int {n i k : Nat} (hi : i < 4) (e : fac3 (k - 1) = szO i) : ((n : Int) / (fac3 (k - 1) : Int)) % (4 - (i : Int)) = (nthJ n i : Int) := by
  rw [e, nthJ, show (4 : Int) - i = ((4 - i : Nat) : Int) by omega]
  simp
end Go.V
/- The reference: permutations by number, matches of parts. -/
namespace Go.Proofs
open Go Go.V
set_option maxRecDepth 20000
theorem own_open1 {w : World} {e k n : Nat} {v : Value} {xs : List Value} (h : w.ownsRow 0 e k v n xs) (hn : 0 < n) : ∃ g c, v = .slice (some ⟨g, 0, none⟩) n c ∧ n ≤ c := by
  rcases h.2 with ⟨_, h2⟩ | ⟨g, cap, cur, hv, hg, hb, h1, h2, _⟩
  · omega
  · exact ⟨g, cap, hv, h1⟩
theorem ints_take (xs : List Int) (j : Nat) : ints (xs.take j) = (ints xs).take j := by simp [ints, List.map_take]
theorem ints_drop (xs : List Int) (j : Nat) : ints (xs.drop j) = (ints xs).drop j := by simp [ints, List.map_drop]
theorem cells_take {w : World} {A : Addr} {xs : List Int} (h : Cells w A (ints xs)) (j : Nat) : Cells w A (ints (xs.take j)) := fun i v hi => by
  rw [ints_take, List.getElem?_take] at hi
  split at hi
  · exact h i v hi
  · cases hi
theorem cells_drop {w : World} {A : Addr} {xs : List Int} (h : Cells w A (ints xs)) (j : Nat) : Cells w (A.add (j * 1)) (ints (xs.drop j)) := fun i v hi => by
  rw [ints_drop, List.getElem?_drop] at hi
  rw [add_add, Nat.mul_one]; exact h _ v hi
theorem ints_append (xs ys : List Int) : ints xs ++ ints ys = ints (xs ++ ys) := by simp [ints]

theorem rf_Nth (n : Nat) (w : World) (hn : n < 24) : Gives Tryz.prog 69 #[iv (n : Int)] w Nil (fun _ : Unit => True) (fun _ => p4V (nthP n)) (fun _ => []) := by
  refine fn_of_run (S := Nil) (args := [iv (n : Int)]) (n := 46) (L := []) Tryz.func69 rfl Tryz.ntmps69 (Nat.le_of_ble_eq_true rfl) (Sym.nil _ _) ?_
  change RunC _ _ _ [(0, _)] _
  refine RunC.seq ?_
  refine RunC.region ?_
  refine RunL.grows rfl rfl rfl (Grows.alloc rfl Tryz.zeroValue32) (fun b2 _ => ?_)
  refine RunL.nil ?_
  refine Ends.then ?_
  refine RunC.seq ?_
  refine RunC.region ?_
  refine RunL.grows rfl rfl rfl (Grows.buildSlice (vs := #[(0, _), (1, _), (2, _), (3, _)]) (cells := #[iv 0, iv 1, iv 2, iv 3]) rfl rfl Tryz.underlying36 Tryz.sizeOf3 Tryz.zeroValue3 (by decide) (by kernel_rfl)) (fun b9 _ => ?_)
  refine RunL.conv (fun _ hs => Sym.obj_own (k := 1) (n := 4) hs rfl (by omega)) ?_
  refine RunL.still rfl rfl rfl (Still.assign rfl rfl) ?_
  refine RunL.nil ?_
  refine Ends.then ?_
  refine RunC.seq ?_
  refine RunC.region ?_
  refine RunL.grows rfl rfl rfl (Grows.alloc rfl Tryz.zeroValue32) (fun b4 _ => ?_)
  refine RunL.nil ?_
  refine Ends.then ?_
  refine RunC.seq ?_
  refine RunC.seq ?_
  refine RunC.region ?_
  refine RunL.still rfl rfl rfl (Still.assign rfl rfl) ?_
  refine RunL.nil ?_
  refine Ends.then ?_
  refine RunC.block ?_
  refine RunC.loop2 (γ := Value × Nat) (keep := [(0, _), (2, _), (4, _)]) (hkeep := [_]) (fun (v, i) => i ≤ 4) (fun (v, i) => 4 - i) (fun (v, i) => [(3, v), (5, iv i)]) (fun (v, i) => [HL.own 3 1 v (4 - i) (ints (nthL n i)), HL.obj b4 (.cells (cTo (nthP n) i) 32 (0, 0))]) (.slice (some ⟨b9, 0, none⟩) 4 4, 0) (by omega) (Fr.Sub.cons rfl (Fr.Sub.cons rfl (Fr.Sub.nil _))) (Fr.Sub.cons rfl (Fr.Sub.cons rfl (Fr.Sub.cons rfl (Fr.Sub.nil _)))) (HSub.pick 1 rfl (HSub.pick 0 rfl (HSub.pick 0 rfl (HSub.nil _)))) ?_
  rintro ⟨v, i⟩ hi
  have hi : i ≤ 4 := hi
  refine RunC.seq ?_
  refine RunC.seq ?_
  refine RunC.region ?_
  refine RunL.still rfl rfl rfl (Still.move rfl rfl) ?_
  refine RunL.still rfl rfl rfl (Still.lss rfl rfl rfl) ?_
  refine RunL.nil ?_
  refine Ends.then ?_
  refine RunC.cond rfl (fun h11 => ?_) (fun h11 => ?_)
  · have h11 := of_decide_eq_true h11
    have hi4 : i < 4 := by omega
    have hll := nthL_len n i hi
    have hjl := nthJ_lt n hi4
    refine RunC.skip ?_
    refine Ends.then ?_
    refine RunC.seq ?_
    refine RunC.block ?_
    refine RunC.seq ?_
    refine RunC.region ?_
    refine RunL.still rfl rfl rfl (Still.assign rfl rfl) ?_
    refine RunL.nil ?_
    refine Ends.then ?_
    refine RunC.seq ?_
    refine RunC.seq ?_
    refine RunC.region ?_
    refine RunL.still rfl rfl rfl (Still.assign rfl rfl) ?_
    refine RunL.nil ?_
    refine Ends.then ?_
    refine RunC.block ?_
    refine RunC.loop2 (γ := Nat) (keep := [(0, _), (2, _), (3, _), (4, _), (5, _)]) (hkeep := [_, _, _]) (fun k => 2 ≤ k ∧ (k ≤ 2 ∨ k ≤ 4 - i)) (fun k => 5 - k) (fun k => [(6, iv (fac3 (k - 1) : Nat)), (7, iv k)]) (fun k => []) 2 ⟨by omega, .inl (by omega)⟩ (Fr.Sub.cons rfl (Fr.Sub.cons rfl (Fr.Sub.nil _))) (Fr.Sub.cons rfl (Fr.Sub.cons rfl (Fr.Sub.cons rfl (Fr.Sub.cons rfl (Fr.Sub.cons rfl (Fr.Sub.nil _)))))) (HSub.pick 0 rfl (HSub.pick 0 rfl (HSub.pick 0 rfl (HSub.nil _)))) ?_
    rintro k ⟨hk2, hk4⟩
    refine RunC.seq ?_
    refine RunC.seq ?_
    refine RunC.region ?_
    refine RunL.still rfl rfl rfl (Still.move rfl rfl) ?_
    refine RunL.still rfl rfl rfl (Still.move rfl rfl) ?_
    refine RunL.still rfl rfl rfl (Still.sub rfl rfl rfl (fits64 (by omega) (by omega))) ?_
    refine RunL.still rfl rfl rfl (Still.leq rfl rfl rfl) ?_
    refine RunL.nil ?_
    refine Ends.then ?_
    refine RunC.cond rfl (fun h17 => ?_) (fun h17 => ?_)
    · have h17 := of_decide_eq_true h17
      have hk23 : k = 2 ∨ k = 3 := by omega
      refine RunC.skip ?_
      refine Ends.then ?_
      refine RunC.seq ?_
      refine RunC.block ?_
      refine RunC.region ?_
      refine RunL.still rfl rfl rfl (Still.move rfl rfl) ?_
      refine RunL.still rfl rfl rfl (Still.move rfl rfl) ?_
      refine RunL.still rfl rfl rfl (Still.mul rfl rfl rfl (fits64 (by rcases hk23 with rfl | rfl <;> decide) (by rcases hk23 with rfl | rfl <;> decide))) ?_
      refine RunL.still rfl rfl rfl (Still.assign rfl rfl) ?_
      refine RunL.nil ?_
      refine Ends.block ?_
      refine Ends.then ?_
      refine RunC.region ?_
      refine RunL.still rfl rfl rfl (Still.move rfl rfl) ?_
      refine RunL.still rfl rfl rfl (Still.add rfl rfl rfl (fits64 (by omega) (by omega))) ?_
      refine RunL.still rfl rfl rfl (Still.assign rfl rfl) ?_
      refine RunL.nil ?_
      refine Ends.again (k + 1) ?_ ?_ (Fr.Sub.app ?_ ?_) ?_
      · exact ⟨by omega, .inr (by omega)⟩
      · show _ < _; omega
      · exact Fr.Sub.cons (congrArg (fun z : Int => some (Value.int .i64 z)) (by rcases hk23 with rfl | rfl <;> rfl)) (Fr.Sub.cons rfl (Fr.Sub.nil _))
      · exact Fr.Sub.cons rfl (Fr.Sub.cons rfl (Fr.Sub.cons rfl (Fr.Sub.cons rfl (Fr.Sub.cons rfl (Fr.Sub.nil _)))))
      · exact HSub.pick 0 rfl (HSub.pick 0 rfl (HSub.pick 0 rfl (HSub.nil _)))
    · have h17 := of_decide_eq_false h17
      have hfs := fac3_sz hi4 hk2 hk4 h17
      have hj := nthJ_int (n := n) hi4 hfs
      have hpos : 0 < fac3 (k - 1) := by rw [fac3]; split; omega; split <;> omega
      refine RunC.exit ?_
      refine Ends.then_exit ?_
      refine Ends.then_exit ?_
      refine Ends.block_exit ?_
      refine Ends.then ?_
      refine RunC.seq ?_
      refine RunC.region ?_
      refine RunL.still rfl rfl rfl (Still.move rfl rfl) ?_
      refine RunL.still rfl rfl rfl (Still.move rfl rfl) ?_
      refine RunL.still rfl rfl rfl (Still.quoP rfl rfl rfl (by omega) (by omega) (fits64 (by have h := Int.ediv_nonneg (a := (n : Int)) (b := (fac3 (k - 1) : Int)) (by omega) (by omega); omega) (by have h := Int.ediv_le_self (a := (n : Int)) (fac3 (k - 1) : Int) (by omega); omega))) ?_
      refine RunL.still rfl rfl rfl (Still.move rfl rfl) ?_
      refine RunL.still rfl rfl rfl (Still.sub rfl rfl rfl (fits64 (by omega) (by omega))) ?_
      refine RunL.still rfl rfl rfl (Still.remP rfl rfl rfl (by exact Int.ediv_nonneg (by omega) (by omega)) (by omega)) ?_
      refine RunL.again (t := 28) (u := iv (nthJ n i : Nat)) rfl (congrArg (Value.int .i64) hj) ?_
      refine RunL.still rfl rfl rfl (Still.assign rfl rfl) ?_
      refine RunL.nil ?_
      refine Ends.then ?_
      refine RunC.seq ?_
      refine RunC.region ?_
      refine RunL.still rfl rfl rfl (Still.move rfl rfl) ?_
      refine RunL.still rfl rfl rfl (Still.move rfl rfl) ?_
      refine RunL.still rfl rfl rfl (Still.move rfl rfl) ?_
      refine RunL.still rfl rfl rfl (Still.indexOwnI (m := (nthJ n i)) rfl rfl rfl Tryz.underlying36 Tryz.sizeOf3 (fun _ hs => hs.own (i := 0) rfl) (rfl) (by omega)) ?_
      refine RunL.still rfl rfl rfl (Still.load rfl rfl Tryz.isAgg3 (fun w hs => own_at (hs.own (i := 0) rfl) (ints_get (getD_get' (by omega))))) ?_
      refine RunL.still rfl rfl rfl (Still.indexArrNL rfl rfl rfl Tryz.underlying32 Tryz.sizeOf3 (by omega)) ?_
      refine RunL.does0 rfl rfl (Does.store1 rfl rfl rfl (i := 1) rfl Tryz.sizeOf3 rfl (Nat.ble_eq_true_of_le (show 0 + i * 1 + 1 ≤ 4 by omega))) (fun _ _ => ?_)
      refine RunL.conv (fun _ hs => hs.re 1 rfl (show _ = HL.obj b4 (.cells (cTo (nthP n) (i + 1)) 32 (0, 0)) from congrArg (fun z => HL.obj b4 (.cells z 32 (0, 0))) (cTo_set hi4 (nthP_at n hi4)))) ?_
      refine RunL.nil ?_
      refine Ends.then ?_
      refine RunC.know (fun _ hs => own_open1 (hs.own (i := 0) rfl) (by omega)) (fun hop => ?_)
      obtain ⟨lg, lc, hvv, hlc⟩ := hop
      subst hvv
      refine RunC.drawY (.pure 1 (.pure 2 (.pure 3 (.pure 5 (.pure 6 (.pure 7 (.pure 8 (.one 0 (.one 4 (.one 9 (.pure 10 .done))))))))))) (by kernel_rfl) (by kernel_rfl) ?_
      refine RunY.pure rfl rfl rfl rfl (fun _ => Still.move rfl rfl) ?_
      refine RunY.pure rfl rfl rfl rfl (fun _ => Still.move rfl rfl) ?_
      refine RunY.pure rfl rfl rfl rfl (fun _ => Still.sliceTo rfl rfl rfl Tryz.underlying36 Tryz.sizeOf3 (by omega)) ?_
      refine RunY.pure rfl rfl rfl rfl (fun _ => Still.move rfl rfl) ?_
      refine RunY.pure rfl rfl rfl rfl (fun _ => Still.move rfl rfl) ?_
      refine RunY.pure rfl rfl rfl rfl (fun _ => Still.add rfl rfl rfl (fits64 (by omega) (by omega))) ?_
      refine RunY.pure rfl rfl rfl rfl (fun _ => Still.sliceFrom (nthJ n i + 1) rfl rfl rfl Tryz.underlying36 Tryz.sizeOf3 (by omega) (by omega)) ?_
      refine RunY.grows rfl rfl rfl rfl (Grows.empty rfl Tryz.underlying36 Tryz.sizeOf3 Tryz.zeroValue3) (fun b35 _ => ?_)
      refine RunY.does rfl rfl rfl rfl (Does.appendAny (n' := (nthJ n i)) (xs' := (ints ((nthL n i).take (nthJ n i)))) (news := (ints ((nthL n i).take (nthJ n i)))) rfl rfl rfl rfl (fun _ => rfl) (i := 0) rfl Tryz.underlying36 (by kernel_rfl : Tryz.prog.info? 3 = some Tryz.t3) (by kernel_rfl : (_ : Option _) = some (some (.int .i64 0), 1, 8)) rfl rfl (fun w hs => cells_take (own_all (hs.own (i := 1) rfl)) _) (by rw [length_ints, List.length_take]; omega) (ints_one _) (by omega) (by omega) (Nat.zero_add _) (rfl)) (fun v39 hv39 => ?_)
      refine RunY.does rfl rfl rfl rfl (Does.appendAny (n' := (4 - (i + 1))) (xs' := (ints (nthL n (i + 1)))) (news := (ints ((nthL n i).drop (nthJ n i + 1)))) rfl rfl rfl rfl (fun h0 => congrArg some (if_neg (by omega))) (i := 0) rfl Tryz.underlying36 (by kernel_rfl : Tryz.prog.info? 3 = some Tryz.t3) (by kernel_rfl : (_ : Option _) = some (some (.int .i64 0), 1, 8)) rfl rfl (fun w hs => cells_drop (own_all (hs.own (i := 1) rfl)) _) (by rw [length_ints, List.length_drop]; omega) (ints_one _) (by omega) (by omega) (by omega) (ints_append _ _)) (fun v44 hv44 => ?_)
      refine RunY.conv (fun _ hs => hs.sub (HSub.pick 0 rfl (HSub.pick 1 rfl (HSub.pick 1 rfl (HSub.nil _))))) ?_
      refine RunY.pure rfl rfl rfl rfl (fun _ => Still.assign rfl rfl) ?_
      refine RunY.done ?_
      refine Ends.block ?_
      refine Ends.then ?_
      refine RunC.region ?_
      refine RunL.still rfl rfl rfl (Still.move rfl rfl) ?_
      refine RunL.still rfl rfl rfl (Still.add rfl rfl rfl (fits64 (by omega) (by omega))) ?_
      refine RunL.still rfl rfl rfl (Still.assign rfl rfl) ?_
      refine RunL.nil ?_
      refine Ends.again (v44, i + 1) ?_ ?_ (Fr.Sub.app ?_ ?_) ?_
      · show i + 1 ≤ 4; omega
      · show 4 - (i + 1) < 4 - i; omega
      · exact Fr.Sub.cons rfl (Fr.Sub.cons rfl (Fr.Sub.nil _))
      · exact Fr.Sub.cons rfl (Fr.Sub.cons rfl (Fr.Sub.cons rfl (Fr.Sub.nil _)))
      · exact HSub.pick 0 rfl (HSub.pick 0 rfl (HSub.pick 0 rfl (HSub.nil _)))
  · have h11 := of_decide_eq_false h11
    obtain rfl : i = 4 := by omega
    refine RunC.exit ?_
    refine Ends.then_exit ?_
    refine Ends.then_exit ?_
    refine Ends.block_exit ?_
    refine Ends.then ?_
    refine RunC.seq ?_
    refine RunC.region ?_
    refine RunL.still rfl rfl rfl (Still.loads rfl rfl Tryz.isAgg32 Tryz.sizeOf32 (vs := [_, _, _, _]) rfl (fun _ hs => cells_nth (hs.at (i := 1) rfl) ⟨rfl, ⟨rfl, ⟨rfl, ⟨rfl, trivial⟩⟩⟩⟩)) ?_
    refine RunL.does0 rfl rfl (Does.store rfl rfl rfl (i := 2) rfl Tryz.sizeOf32 rfl (rfl) rfl) (fun _ _ => ?_)
    refine RunL.nil ?_
    refine Ends.then ?_
    refine RunC.ret ?_
    refine Ends.leave (.inl rfl) (fun _ _ ok => results1 Tryz.results69 (Holds.cell rfl (fun _ hs => load_cells (vs := [_, _, _, _]) Tryz.isAgg32 Tryz.sizeOf32 rfl (cells_nth (hs.at (i := 2) rfl) ⟨rfl, ⟨rfl, ⟨rfl, ⟨rfl, trivial⟩⟩⟩⟩))) ok) (fun w1 hs => ?_)
    exact Ret.intro () trivial rfl (HSub.nil _) hs

end Go.Proofs
/- The reference matches two parts. -/
namespace Go.Proofs
open Go Go.V
set_option maxRecDepth 20000
theorem flatP_get {l : List P4} {s f : Nat} (hs : s < l.length) (hf : f < 4) : (l.flatMap encP)[s * 4 + f * 1]? = some (iv ((pAt l s).at f)) := by
  rw [Nat.mul_one]; exact flat_get encP_len (pAt_get hs) (encP_get _ hf)
theorem zP_cells (n : Nat) : (zeros n [iv 0, iv 0, iv 0, iv 0]).toList = (List.replicate n zP).flatMap encP := by
  simp only [zeros]
  induction n with
  | zero => rfl
  | succ n ih => rw [List.replicate_succ, List.replicate_succ, List.flatMap_cons, ← ih]; rfl
theorem mTo_none {a b : Glu} {s f : Nat} {m c : MSt} (h : mTo a b s m f = some c) (h2 : mFace a b s f c = none) : ∀ d, mTo a b s m (f + 1 + d) = none
  | 0 => by rw [Nat.add_zero, mTo, h]; exact h2
  | d + 1 => by rw [← Nat.add_assoc, mTo, mTo_none h h2 d]; rfl
theorem match_no {a b : Glu} {t u : Nat} {p : P4} {s f i k : Nat} {m c : MSt} (hs : m.q[i]? = some s) (hM : mBfs a b k i m = mBfs a b a.length 0 (mStart a b t u p)) (hk : 0 < k) (hf : f < 4) (h : mTo a b s m f = some c) (h2 : mFace a b s f c = none) : matchG a b t u p = false := by
  have h4 := mTo_none h h2 (3 - f)
  rw [show f + 1 + (3 - f) = 4 by omega] at h4
  obtain ⟨k, rfl⟩ : ∃ j, k = j + 1 := ⟨k - 1, by omega⟩
  rw [matchG, ← hM, mBfs_step hs, h4]; rfl

theorem rf_matches (ba : Option Addr) (A : Addr) (ca : Nat) (a : Glu) (bb : Option Addr) (B : Addr) (cb : Nat) (b : Glu) (t u : Nat) (p : P4) (w : World) (hga : GluAt w ba A a) (hgb : GluAt w bb B b) (ha : okG a = true) (hb : okG b = true) (ht : t < a.length) (hu : u < b.length) (hp : okP p = true) : Gives Tryz.prog 68 #[gluV ba ca a, gluV bb cb b, iv (t : Int), iv (u : Int), p4V p] w Nil (fun _ : Unit => True) (fun _ => .bool (matchG a b t u p)) (fun _ => []) := by
  have hla := hga.len
  have hlb := hgb.len
  have h1000 := okG_len ha
  have h1001 := okG_len hb
  refine fn_of_run (S := Nil) (args := [gluV ba ca a, gluV bb cb b, iv (t : Int), iv (u : Int), p4V p]) (n := 164) (L := []) Tryz.func68 rfl Tryz.ntmps68 (Nat.le_of_ble_eq_true rfl) (Sym.nil _ _) ?_
  change RunC _ _ _ [(0, _), (1, _), (2, _), (3, _), (4, _)] _
  refine RunC.seq ?_
  refine RunC.region ?_
  refine RunL.grows rfl rfl rfl (Grows.box rfl rfl) (fun b5 _ => ?_)
  refine RunL.grows rfl rfl rfl (Grows.box rfl rfl) (fun b6 _ => ?_)
  refine RunL.grows rfl rfl rfl (Grows.box rfl rfl) (fun b9 _ => ?_)
  refine RunL.still rfl rfl rfl (Still.assign rfl rfl) ?_
  refine RunL.nil ?_
  refine Ends.then ?_
  refine RunC.seq ?_
  refine RunC.region ?_
  refine RunL.still rfl rfl rfl (Still.fieldAddrL (off := 0) (off' := 0) rfl rfl Tryz.underlying24 rfl Tryz.sizeOf22 rfl) ?_
  refine RunL.still rfl rfl rfl (Still.load rfl rfl Tryz.isAgg22 (fun _ hs => cell_nth (hs.at (i := 2) rfl) rfl)) ?_
  refine RunL.still rfl rfl rfl (Still.lenSlice rfl rfl Tryz.underlying22) ?_
  refine RunL.grows rfl rfl rfl (Grows.make (n := a.length) (xs := (ints (List.replicate a.length 0))) rfl rfl rfl Tryz.underlying36 (by kernel_rfl : (_ : Option _) = some (some (.int .i64 0), 1, 8)) rfl (by omega) (by omega) (zeros_one _ _ |>.trans (ints_replicate _ _))) (fun b25 _ => ?_)
  refine RunL.still rfl rfl rfl (Still.assign rfl rfl) ?_
  refine RunL.nil ?_
  refine Ends.then ?_
  refine RunC.seq ?_
  refine RunC.region ?_
  refine RunL.still rfl rfl rfl (Still.fieldAddrL (off := 0) (off' := 0) rfl rfl Tryz.underlying24 rfl Tryz.sizeOf22 rfl) ?_
  refine RunL.still rfl rfl rfl (Still.load rfl rfl Tryz.isAgg22 (fun _ hs => cell_nth (hs.at (i := 3) rfl) rfl)) ?_
  refine RunL.still rfl rfl rfl (Still.lenSlice rfl rfl Tryz.underlying22) ?_
  refine RunL.grows rfl rfl rfl (Grows.make (n := a.length) (xs := ((List.replicate a.length zP).flatMap encP)) rfl rfl rfl Tryz.underlying43 (by kernel_rfl : (_ : Option _) = some (some (.agg #[.int .i64 0, .int .i64 0, .int .i64 0, .int .i64 0]), 4, 32)) rfl (by omega) (by omega) (by exact zP_cells _)) (fun b29 _ => ?_)
  refine RunL.still rfl rfl rfl (Still.assign rfl rfl) ?_
  refine RunL.nil ?_
  refine Ends.then ?_
  refine RunC.seq ?_
  refine RunC.seq ?_
  refine RunC.region ?_
  refine RunL.still rfl rfl rfl (Still.assign rfl rfl) ?_
  refine RunL.nil ?_
  refine Ends.then ?_
  refine RunC.block ?_
  refine RunC.loop2 (γ := Nat) (keep := [(2, _), (3, _), (5, _), (6, _), (9, _), (11, _), (12, _)]) (hkeep := [_, _, _, _]) (fun j => j ≤ a.length) (fun j => a.length - j) (fun j => [(13, iv j)]) (fun j => [HL.own 3 1 (.slice (some ⟨b25, 0, none⟩) a.length a.length) a.length (ints (negTo a.length j))]) 0 (by omega) (Fr.Sub.cons rfl (Fr.Sub.nil _)) (Fr.Sub.cons rfl (Fr.Sub.cons rfl (Fr.Sub.cons rfl (Fr.Sub.cons rfl (Fr.Sub.cons rfl (Fr.Sub.cons rfl (Fr.Sub.cons rfl (Fr.Sub.nil _)))))))) (HSub.pick 1 (by rw [negTo_zero]; rfl) (HSub.pick 0 rfl (HSub.pick 0 rfl (HSub.pick 0 rfl (HSub.pick 0 rfl (HSub.nil _)))))) ?_
  rintro j hj
  refine RunC.seq ?_
  refine RunC.seq ?_
  refine RunC.region ?_
  refine RunL.still rfl rfl rfl (Still.move rfl rfl) ?_
  refine RunL.still rfl rfl rfl (Still.move rfl rfl) ?_
  refine RunL.still rfl rfl rfl (Still.lenOwn rfl rfl Tryz.underlying36 (fun _ hs => hs.own (i := 0) rfl)) ?_
  refine RunL.still rfl rfl rfl (Still.lss rfl rfl rfl) ?_
  refine RunL.nil ?_
  refine Ends.then ?_
  refine RunC.cond rfl (fun h33 => ?_) (fun h33 => ?_)
  · have h33 := of_decide_eq_true h33
    refine RunC.skip ?_
    refine Ends.then ?_
    refine RunC.seq ?_
    refine RunC.block ?_
    refine RunC.region ?_
    refine RunL.still rfl rfl rfl (Still.move rfl rfl) ?_
    refine RunL.still rfl rfl rfl (Still.move rfl rfl) ?_
    refine RunL.still rfl rfl rfl (Still.indexOwn rfl rfl rfl Tryz.underlying36 Tryz.sizeOf3 (fun _ hs => hs.own (i := 0) rfl) (by omega)) ?_
    refine RunL.does0 rfl rfl (Does.storeOwn1 (xs' := (ints (negTo a.length (j + 1)))) rfl rfl rfl rfl (i := 0) rfl Tryz.sizeOf3 rfl (by rw [length_ints, negTo_len]; omega) ((ints_set _ _ _).trans (congrArg ints (negTo_succ (by omega))))) (fun _ _ => ?_)
    refine RunL.nil ?_
    refine Ends.block ?_
    refine Ends.then ?_
    refine RunC.region ?_
    refine RunL.still rfl rfl rfl (Still.move rfl rfl) ?_
    refine RunL.still rfl rfl rfl (Still.add rfl rfl rfl (fits64 (by omega) (by omega))) ?_
    refine RunL.still rfl rfl rfl (Still.assign rfl rfl) ?_
    refine RunL.nil ?_
    refine Ends.again (j + 1) ?_ ?_ (Fr.Sub.app ?_ ?_) ?_
    · show _; omega
    · show _ < _; omega
    · exact Fr.Sub.cons rfl (Fr.Sub.nil _)
    · exact Fr.Sub.cons rfl (Fr.Sub.cons rfl (Fr.Sub.cons rfl (Fr.Sub.cons rfl (Fr.Sub.cons rfl (Fr.Sub.cons rfl (Fr.Sub.cons rfl (Fr.Sub.nil _)))))))
    · exact HSub.pick 0 rfl (HSub.pick 0 rfl (HSub.pick 0 rfl (HSub.pick 0 rfl (HSub.pick 0 rfl (HSub.nil _)))))
  · have h33 := of_decide_eq_false h33
    obtain rfl : j = a.length := by omega
    refine RunC.conv (fun _ hs => hs.re 0 rfl (show _ = HL.own 3 1 (.slice (some ⟨b25, 0, none⟩) a.length a.length) a.length (ints (List.replicate a.length (-1))) by rw [negTo_all])) ?_
    refine RunC.exit ?_
    refine Ends.then_exit ?_
    refine Ends.then_exit ?_
    refine Ends.block_exit ?_
    refine Ends.then ?_
    refine RunC.seq ?_
    refine RunC.region ?_
    refine RunL.still rfl rfl rfl (Still.fieldAddrL (off := 0) (off' := 0) rfl rfl Tryz.underlying24 rfl Tryz.sizeOf22 rfl) ?_
    refine RunL.still rfl rfl rfl (Still.load rfl rfl Tryz.isAgg22 (fun _ hs => cell_nth (hs.at (i := 3) rfl) rfl)) ?_
    refine RunL.still rfl rfl rfl (Still.lenSlice rfl rfl Tryz.underlying22) ?_
    refine RunL.grows rfl rfl rfl (Grows.make (n := b.length) (xs := (bools (List.replicate b.length false))) rfl rfl rfl Tryz.underlying71 (by kernel_rfl : (_ : Option _) = some (some (.bool false), 1, 1)) rfl (by omega) (by omega) (zeros_one _ _ |>.trans (bools_replicate _ _))) (fun b42 _ => ?_)
    refine RunL.still rfl rfl rfl (Still.assign rfl rfl) ?_
    refine RunL.nil ?_
    refine Ends.then ?_
    refine RunC.seq ?_
    refine RunC.region ?_
    refine RunL.still rfl rfl rfl (Still.move rfl rfl) ?_
    refine RunL.still rfl rfl rfl (Still.move rfl rfl) ?_
    refine RunL.still rfl rfl rfl (Still.move rfl rfl) ?_
    refine RunL.still rfl rfl rfl (Still.indexOwn rfl rfl rfl Tryz.underlying36 Tryz.sizeOf3 (fun _ hs => hs.own (i := 1) rfl) (by omega)) ?_
    refine RunL.does0 rfl rfl (Does.storeOwn1 (xs' := (ints ((List.replicate a.length (-1)).set t u))) rfl rfl rfl rfl (i := 1) rfl Tryz.sizeOf3 rfl (by simp; omega) (ints_set _ _ _)) (fun _ _ => ?_)
    refine RunL.nil ?_
    refine Ends.then ?_
    refine RunC.seq ?_
    refine RunC.region ?_
    refine RunL.still rfl rfl rfl (Still.move rfl rfl) ?_
    refine RunL.still rfl rfl rfl (Still.move rfl rfl) ?_
    refine RunL.still rfl rfl rfl (Still.loads rfl rfl Tryz.isAgg32 Tryz.sizeOf32 (vs := [_, _, _, _]) rfl (fun _ hs => cells_nth (hs.at (i := 3) rfl) ⟨rfl, ⟨rfl, ⟨rfl, ⟨rfl, trivial⟩⟩⟩⟩)) ?_
    refine RunL.still rfl rfl rfl (Still.indexOwn rfl rfl rfl Tryz.underlying43 Tryz.sizeOf32 (fun _ hs => hs.own (i := 2) rfl) (by omega)) ?_
    refine RunL.does0 rfl rfl (Does.storeOwn (xs' := (((List.replicate a.length zP).set t p).flatMap encP)) rfl rfl rfl rfl (i := 2) rfl Tryz.sizeOf32 rfl (by decide) rfl (by rw [flat_len encP_len]; simp; omega) (fun i => flat_set encP_len (by decide) _ (by simpa using ht) i)) (fun _ _ => ?_)
    refine RunL.nil ?_
    refine Ends.then ?_
    refine RunC.seq ?_
    refine RunC.region ?_
    refine RunL.still rfl rfl rfl (Still.move rfl rfl) ?_
    refine RunL.still rfl rfl rfl (Still.move rfl rfl) ?_
    refine RunL.still rfl rfl rfl (Still.indexOwn rfl rfl rfl Tryz.underlying71 Tryz.sizeOf4 (fun _ hs => hs.own (i := 0) rfl) (by omega)) ?_
    refine RunL.does0 rfl rfl (Does.storeOwn1 (xs' := (bools ((List.replicate b.length false).set u true))) rfl rfl rfl rfl (i := 0) rfl Tryz.sizeOf4 rfl (by simp; omega) (bools_set _ _ _)) (fun _ _ => ?_)
    refine RunL.nil ?_
    refine Ends.then ?_
    refine RunC.seq ?_
    refine RunC.region ?_
    refine RunL.still rfl rfl rfl (Still.move rfl rfl) ?_
    refine RunL.grows rfl rfl rfl (Grows.slice1 rfl rfl Tryz.underlying36 Tryz.sizeOf3 rfl Tryz.zeroValue3 (by decide)) (fun b55 _ => ?_)
    refine RunL.conv (fun _ hs => Sym.obj_own (k := 1) (n := 1) hs rfl (by omega)) ?_
    refine RunL.still rfl rfl rfl (Still.assign rfl rfl) ?_
    refine RunL.nil ?_
    refine Ends.then ?_
    refine RunC.seq ?_
    refine RunC.seq ?_
    refine RunC.region ?_
    refine RunL.still rfl rfl rfl (Still.assign rfl rfl) ?_
    refine RunL.nil ?_
    refine Ends.then ?_
    refine RunC.block ?_
    refine RunC.loop2 (γ := Value × MSt × Nat × Nat) (keep := [(5, _), (6, _), (11, _), (12, _), (14, _)]) (hkeep := [_, _, _]) (fun (v, m, i, k) => MJ a b t (4 * i) m ∧ mBfs a b k i m = mBfs a b a.length 0 (mStart a b t u p) ∧ i + k = a.length) (fun (v, m, i, k) => k) (fun (v, m, i, k) => [(15, v), (16, iv i)]) (fun (v, m, i, k) => [HL.own 3 1 (.slice (some ⟨b25, 0, none⟩) a.length a.length) a.length (ints m.to), HL.own 32 4 (.slice (some ⟨b29, 0, none⟩) a.length a.length) a.length (m.by'.flatMap encP), HL.own 4 1 (.slice (some ⟨b42, 0, none⟩) b.length b.length) b.length (bools m.tk), HL.own 3 1 v m.q.length (nints m.q)]) (.slice (some ⟨b55, 0, none⟩) 1 1, mStart a b t u p, 0, a.length) ⟨MJ.start ht hu hp, rfl, by omega⟩ (Fr.Sub.cons rfl (Fr.Sub.cons rfl (Fr.Sub.nil _))) (Fr.Sub.cons rfl (Fr.Sub.cons rfl (Fr.Sub.cons rfl (Fr.Sub.cons rfl (Fr.Sub.cons rfl (Fr.Sub.nil _)))))) (HSub.pick 2 (by rfl) (HSub.pick 2 (by rfl) (HSub.pick 1 (by rfl) (HSub.pick 0 (by rfl) (HSub.pick 0 rfl (HSub.pick 0 rfl (HSub.pick 0 rfl (HSub.nil _)))))))) ?_
    rintro ⟨v, m, i, k⟩ ⟨hJ0, hM, hik⟩
    have hJ0 : MJ a b t (4 * i) m := hJ0
    have hik : i + k = a.length := hik
    have hM : mBfs a b k i m = mBfs a b a.length 0 (mStart a b t u p) := hM
    have hroom0 : m.q.length + negs m.to ≤ a.length := hJ0.pst.room
    refine RunC.seq ?_
    refine RunC.seq ?_
    refine RunC.region ?_
    refine RunL.still rfl rfl rfl (Still.move rfl rfl) ?_
    refine RunL.still rfl rfl rfl (Still.move rfl rfl) ?_
    refine RunL.still rfl rfl rfl (Still.lenOwn rfl rfl Tryz.underlying36 (fun _ hs => hs.own (i := 3) rfl)) ?_
    refine RunL.still rfl rfl rfl (Still.lss rfl rfl rfl) ?_
    refine RunL.nil ?_
    refine Ends.then ?_
    refine RunC.cond rfl (fun h59 => ?_) (fun h59 => ?_)
    · have h59 := of_decide_eq_true h59
      obtain ⟨s, hqe⟩ := get_of_lt (l := m.q) (i := i) (by omega)
      have hsN : s < a.length := hJ0.pst.mem s (List.mem_of_getElem? hqe)
      refine RunC.skip ?_
      refine Ends.then ?_
      refine RunC.seq ?_
      refine RunC.block ?_
      refine RunC.seq ?_
      refine RunC.region ?_
      refine RunL.still rfl rfl rfl (Still.move rfl rfl) ?_
      refine RunL.still rfl rfl rfl (Still.move rfl rfl) ?_
      refine RunL.still rfl rfl rfl (Still.indexOwn rfl rfl rfl Tryz.underlying36 Tryz.sizeOf3 (fun _ hs => hs.own (i := 3) rfl) (by omega)) ?_
      refine RunL.still rfl rfl rfl (Still.load rfl rfl Tryz.isAgg3 (fun w hs => own_at (hs.own (i := 3) rfl) (nints_get hqe))) ?_
      refine RunL.still rfl rfl rfl (Still.assign rfl rfl) ?_
      refine RunL.nil ?_
      refine Ends.then ?_
      refine RunC.seq ?_
      refine RunC.region ?_
      refine RunL.still rfl rfl rfl (Still.assign rfl rfl) ?_
      refine RunL.nil ?_
      refine Ends.then ?_
      refine RunC.block ?_
      refine RunC.loop2 (γ := Value × Nat × MSt) (keep := [(5, _), (6, _), (11, _), (12, _), (14, _), (16, _), (17, _)]) (hkeep := [_, _, _]) (fun (v, f, c) => f ≤ 4 ∧ mTo a b s m f = some c) (fun (v, f, c) => 4 - f) (fun (v, f, c) => [(15, v), (18, iv f)]) (fun (v, f, c) => [HL.own 3 1 (.slice (some ⟨b25, 0, none⟩) a.length a.length) a.length (ints c.to), HL.own 32 4 (.slice (some ⟨b29, 0, none⟩) a.length a.length) a.length (c.by'.flatMap encP), HL.own 4 1 (.slice (some ⟨b42, 0, none⟩) b.length b.length) b.length (bools c.tk), HL.own 3 1 v c.q.length (nints c.q)]) (v, 0, m) ⟨Nat.zero_le 4, rfl⟩ (Fr.Sub.cons rfl (Fr.Sub.cons rfl (Fr.Sub.nil _))) (Fr.Sub.cons rfl (Fr.Sub.cons rfl (Fr.Sub.cons rfl (Fr.Sub.cons rfl (Fr.Sub.cons rfl (Fr.Sub.cons rfl (Fr.Sub.cons rfl (Fr.Sub.nil _)))))))) (HSub.pick 0 rfl (HSub.pick 0 rfl (HSub.pick 0 rfl (HSub.pick 0 rfl (HSub.pick 0 rfl (HSub.pick 0 rfl (HSub.pick 0 rfl (HSub.nil _)))))))) ?_
      rintro ⟨v, f, c⟩ ⟨hf, hT⟩
      have hf : f ≤ 4 := hf
      have hT : mTo a b s m f = some c := hT
      obtain ⟨hJ, hqs⟩ := mTo_J ha hb hJ0 hqe f hf hT
      have hroom : c.q.length + negs c.to ≤ a.length := hJ.pst.room
      have hlto : c.to.length = a.length := hJ.pst.len
      have hlby := hJ.lby
      have hltk := hJ.ltk
      have hls := hJ.lab s (List.mem_of_getElem? hqs)
      have hbs := hls.2.2.1
      refine RunC.seq ?_
      refine RunC.seq ?_
      refine RunC.region ?_
      refine RunL.still rfl rfl rfl (Still.move rfl rfl) ?_
      refine RunL.still rfl rfl rfl (Still.lss rfl rfl rfl) ?_
      refine RunL.nil ?_
      refine Ends.then ?_
      refine RunC.cond rfl (fun h67 => ?_) (fun h67 => ?_)
      · have h67 := of_decide_eq_true h67
        have hf4 : f < 4 := by omega
        obtain ⟨_, hsb, hp4, hX, hY⟩ := hJ.faces ha hb (List.mem_of_getElem? hqs) hf4
        refine RunC.skip ?_
        refine Ends.then ?_
        refine RunC.seq ?_
        refine RunC.block ?_
        refine RunC.seq ?_
        refine RunC.region ?_
        refine RunL.still rfl rfl rfl (Still.fieldAddrL (off := 0) (off' := 0) rfl rfl Tryz.underlying24 rfl Tryz.sizeOf22 rfl) ?_
        refine RunL.still rfl rfl rfl (Still.load rfl rfl Tryz.isAgg22 (fun _ hs => cell_nth (hs.at (i := 6) rfl) rfl)) ?_
        refine RunL.still rfl rfl rfl (Still.move rfl rfl) ?_
        refine RunL.still rfl rfl rfl (Still.move rfl rfl) ?_
        refine RunL.still rfl rfl rfl (Still.indexSliceN rfl rfl rfl Tryz.underlying22 Tryz.sizeOf35 (hga.base (by omega)) (by omega)) ?_
        refine RunL.still rfl rfl rfl (Still.indexArrN rfl rfl rfl Tryz.underlying35 Tryz.sizeOf34 (by omega)) ?_
        refine RunL.still rfl rfl rfl (Still.loads rfl rfl Tryz.isAgg34 Tryz.sizeOf34 (vs := [iv (mX a s f).tet, iv (mX a s f).p.a0, iv (mX a s f).p.a1, iv (mX a s f).p.a2, iv (mX a s f).p.a3]) rfl (fun _ hs => (hga.sym hs).face (tAt_get hsN) hf4)) ?_
        refine RunL.grows rfl rfl rfl (Grows.alloc rfl Tryz.zeroValue34) (fun b19 _ => ?_)
        refine RunL.does0 rfl rfl (Does.store rfl rfl rfl (i := 0) rfl Tryz.sizeOf34 rfl (rfl) rfl) (fun _ _ => ?_)
        refine RunL.nil ?_
        refine Ends.then ?_
        refine RunC.seq ?_
        refine RunC.draw 16 (.still 0 (.still 1 (.still 2 (.still 3 (.still 4 (.still 5 (.still 6 (.still 7 (.still 8 (.still 9 (.still 10 (.still 11 (.still 12 (.still 13 (.still 14 (.one 15 .done)))))))))))))))) (by kernel_rfl) (by kernel_rfl) ?_
        refine RunG.still rfl rfl rfl rfl (Still.fieldAddrL (off := 0) (off' := 0) rfl rfl Tryz.underlying24 rfl Tryz.sizeOf22 rfl) ?_
        refine RunG.still rfl rfl rfl rfl (Still.load rfl rfl Tryz.isAgg22 (fun _ hs => cell_nth (hs.at (i := 6) rfl) rfl)) ?_
        refine RunG.still rfl rfl rfl rfl (Still.move rfl rfl) ?_
        refine RunG.still rfl rfl rfl rfl (Still.move rfl rfl) ?_
        refine RunG.still rfl rfl rfl rfl (Still.indexOwn rfl rfl rfl Tryz.underlying36 Tryz.sizeOf3 (fun _ hs => hs.own (i := 1) rfl) (by omega)) ?_
        refine RunG.still rfl rfl rfl rfl (Still.load rfl rfl Tryz.isAgg3 (fun w hs => own_at (hs.own (i := 1) rfl) (ints_get (getD_get' (by omega))))) ?_
        refine RunG.still rfl rfl rfl rfl (Still.move rfl rfl) ?_
        refine RunG.still rfl rfl rfl rfl (Still.move rfl rfl) ?_
        refine RunG.still rfl rfl rfl rfl (Still.move rfl rfl) ?_
        refine RunG.still rfl rfl rfl rfl (Still.indexOwn rfl rfl rfl Tryz.underlying43 Tryz.sizeOf32 (fun _ hs => hs.own (i := 2) rfl) (by omega)) ?_
        refine RunG.still rfl rfl rfl rfl (Still.indexArrN rfl rfl rfl Tryz.underlying32 Tryz.sizeOf3 (by omega)) ?_
        have hpf := okP_at hbs f
        refine RunG.still rfl rfl rfl rfl (Still.load rfl rfl Tryz.isAgg3 (fun w hs => own_at2 (hs.own (i := 2) rfl) (flatP_get (by omega) hf4))) ?_
        refine RunG.still rfl rfl rfl rfl (Still.indexSliceE (c.to.getD s 0).toNat rfl rfl rfl Tryz.underlying22 Tryz.sizeOf35 (hgb.base (by omega)) (by omega) (by omega)) ?_
        have hpf2 := okP_at hbs f
        refine RunG.still rfl rfl rfl rfl (Still.indexArrE ((pAt c.by' s).at f).toNat rfl rfl rfl Tryz.underlying35 Tryz.sizeOf34 (by omega) (by omega)) ?_
        refine RunG.still rfl rfl rfl rfl (Still.loads rfl rfl Tryz.isAgg34 Tryz.sizeOf34 (vs := [iv (mY b c s f).tet, iv (mY b c s f).p.a0, iv (mY b c s f).p.a1, iv (mY b c s f).p.a2, iv (mY b c s f).p.a3]) rfl (fun _ hs => (hgb.sym hs).face (tAt_get (by omega)) (by omega))) ?_
        refine RunG.grows rfl rfl rfl rfl (Grows.alloc rfl Tryz.zeroValue34) (fun b20 _ => ?_)
        refine RunG.done ?_
        show RunL _ _ _ [_] _ _
        refine RunL.does0 rfl rfl (Does.store rfl rfl rfl (i := 0) rfl Tryz.sizeOf34 rfl (rfl) rfl) (fun _ _ => ?_)
        refine RunL.nil ?_
        refine Ends.then ?_
        refine RunC.seq ?_
        refine RunC.seq ?_
        refine RunC.conv (fun _ hs => hs.sub (HSub.pick 0 rfl (HSub.pick 0 rfl (HSub.pick 0 rfl (HSub.pick 0 rfl (HSub.pick 0 rfl (HSub.pick 0 rfl (HSub.pick 0 rfl (HSub.pick 0 rfl (HSub.pick 0 rfl (HSub.nil _))))))))))) ?_
        refine RunC.region ?_
        refine RunL.still rfl rfl rfl (Still.fieldAddrL (off := 0) (off' := 0) rfl rfl Tryz.underlying34 rfl Tryz.sizeOf3 rfl) ?_
        refine RunL.still rfl rfl rfl (Still.load rfl rfl Tryz.isAgg3 (fun _ hs => cell_nth (hs.at (i := 1) rfl) rfl)) ?_
        refine RunL.still rfl rfl rfl (Still.lss rfl rfl rfl) ?_
        refine RunL.still rfl rfl rfl (Still.move rfl rfl) ?_
        refine RunL.split (t := 95) rfl (fun h95 => ?_) (fun h95 => ?_)
        · have h95 := of_decide_eq_true h95
          refine RunL.off rfl rfl rfl ?_
          refine RunL.off rfl rfl rfl ?_
          refine RunL.off rfl rfl rfl ?_
          refine RunL.still rfl rfl rfl (Still.pickT rfl rfl rfl) ?_
          refine RunL.nil ?_
          refine Ends.then ?_
          refine RunC.cond_true rfl ?_
          refine RunC.seq ?_
          refine RunC.seq ?_
          refine RunC.region ?_
          refine RunL.still rfl rfl rfl (Still.fieldAddrL (off := 0) (off' := 0) rfl rfl Tryz.underlying34 rfl Tryz.sizeOf3 rfl) ?_
          refine RunL.still rfl rfl rfl (Still.load rfl rfl Tryz.isAgg3 (fun _ hs => cell_nth (hs.at (i := 1) rfl) rfl)) ?_
          refine RunL.still rfl rfl rfl (Still.fieldAddrL (off := 0) (off' := 0) rfl rfl Tryz.underlying34 rfl Tryz.sizeOf3 rfl) ?_
          refine RunL.still rfl rfl rfl (Still.load rfl rfl Tryz.isAgg3 (fun _ hs => cell_nth (hs.at (i := 0) rfl) rfl)) ?_
          refine RunL.still rfl rfl rfl (Still.neq rfl rfl rfl) ?_
          refine RunL.nil ?_
          refine Ends.then ?_
          refine RunC.cond rfl (fun h104 => ?_) (fun h104 => ?_)
          · have h104 := of_decide_eq_true h104
            refine RunC.seq ?_
            refine RunC.region ?_
            refine RunL.still rfl rfl rfl (Still.assign rfl rfl) ?_
            refine RunL.nil ?_
            refine Ends.then ?_
            refine RunC.ret ?_
            refine Ends.then_ret ?_
            refine Ends.then_ret ?_
            refine Ends.block_ret ?_
            refine Ends.then_ret ?_
            refine Ends.then_ret ?_
            refine Ends.block_ret ?_
            refine Ends.block_ret ?_
            refine Ends.then_ret ?_
            refine Ends.then_ret ?_
            refine Ends.block_ret ?_
            refine Ends.then_ret ?_
            refine Ends.leave (.inl rfl) (fun _ _ ok => results1 Tryz.results68 (Holds.tmp rfl) ok) (fun w1 hs => ?_)
            exact Ret.intro () trivial (congrArg Value.bool (match_no hqe hM (by omega) hf4 hT (mFace_differ (.inl h95) h104)).symm) (HSub.nil _) hs
          · have h104 := of_decide_eq_false h104
            refine RunC.skip ?_
            refine Ends.then ?_
            refine RunC.exit ?_
            refine Ends.then_exit ?_
            refine Ends.block_exit ?_
            refine Ends.then ?_
            refine RunC.region ?_
            refine RunL.still rfl rfl rfl (Still.move rfl rfl) ?_
            refine RunL.still rfl rfl rfl (Still.add rfl rfl rfl (fits64 (by omega) (by omega))) ?_
            refine RunL.still rfl rfl rfl (Still.assign rfl rfl) ?_
            refine RunL.nil ?_
            refine Ends.again (v, f + 1, c) ?_ ?_ (Fr.Sub.app ?_ ?_) ?_
            · exact ⟨by show f + 1 ≤ 4; omega, by rw [mTo, hT]; exact mFace_free (.inl h95) (Decidable.not_not.1 h104)⟩
            · show 4 - (f + 1) < 4 - f; omega
            · exact Fr.Sub.cons rfl (Fr.Sub.cons rfl (Fr.Sub.nil _))
            · exact Fr.Sub.cons rfl (Fr.Sub.cons rfl (Fr.Sub.cons rfl (Fr.Sub.cons rfl (Fr.Sub.cons rfl (Fr.Sub.cons rfl (Fr.Sub.cons rfl (Fr.Sub.nil _)))))))
            · exact HSub.pick 2 rfl (HSub.pick 2 rfl (HSub.pick 2 rfl (HSub.pick 2 rfl (HSub.pick 2 rfl (HSub.pick 2 rfl (HSub.pick 2 rfl (HSub.nil _)))))))
        · have h95 := of_decide_eq_false h95
          refine RunL.still rfl rfl rfl (Still.fieldAddrL (off := 0) (off' := 0) rfl rfl Tryz.underlying34 rfl Tryz.sizeOf3 rfl) ?_
          refine RunL.still rfl rfl rfl (Still.load rfl rfl Tryz.isAgg3 (fun _ hs => cell_nth (hs.at (i := 0) rfl) rfl)) ?_
          refine RunL.still rfl rfl rfl (Still.lss rfl rfl rfl) ?_
          refine RunL.still rfl rfl rfl (Still.pickF rfl rfl rfl) ?_
          refine RunL.nil ?_
          refine Ends.then ?_
          refine RunC.cond rfl (fun h99 => ?_) (fun h99 => ?_)
          · have h99 := of_decide_eq_true h99
            refine RunC.seq ?_
            refine RunC.seq ?_
            refine RunC.region ?_
            refine RunL.still rfl rfl rfl (Still.fieldAddrL (off := 0) (off' := 0) rfl rfl Tryz.underlying34 rfl Tryz.sizeOf3 rfl) ?_
            refine RunL.still rfl rfl rfl (Still.load rfl rfl Tryz.isAgg3 (fun _ hs => cell_nth (hs.at (i := 1) rfl) rfl)) ?_
            refine RunL.still rfl rfl rfl (Still.fieldAddrL (off := 0) (off' := 0) rfl rfl Tryz.underlying34 rfl Tryz.sizeOf3 rfl) ?_
            refine RunL.still rfl rfl rfl (Still.load rfl rfl Tryz.isAgg3 (fun _ hs => cell_nth (hs.at (i := 0) rfl) rfl)) ?_
            refine RunL.still rfl rfl rfl (Still.neq rfl rfl rfl) ?_
            refine RunL.nil ?_
            refine Ends.then ?_
            refine RunC.cond rfl (fun h104 => ?_) (fun h104 => ?_)
            · have h104 := of_decide_eq_true h104
              refine RunC.seq ?_
              refine RunC.region ?_
              refine RunL.still rfl rfl rfl (Still.assign rfl rfl) ?_
              refine RunL.nil ?_
              refine Ends.then ?_
              refine RunC.ret ?_
              refine Ends.then_ret ?_
              refine Ends.then_ret ?_
              refine Ends.block_ret ?_
              refine Ends.then_ret ?_
              refine Ends.then_ret ?_
              refine Ends.block_ret ?_
              refine Ends.block_ret ?_
              refine Ends.then_ret ?_
              refine Ends.then_ret ?_
              refine Ends.block_ret ?_
              refine Ends.then_ret ?_
              refine Ends.leave (.inl rfl) (fun _ _ ok => results1 Tryz.results68 (Holds.tmp rfl) ok) (fun w2 hs => ?_)
              exact Ret.intro () trivial (congrArg Value.bool (match_no hqe hM (by omega) hf4 hT (mFace_differ (.inr h99) h104)).symm) (HSub.nil _) hs
            · have h104 := of_decide_eq_false h104
              refine RunC.skip ?_
              refine Ends.then ?_
              refine RunC.exit ?_
              refine Ends.then_exit ?_
              refine Ends.block_exit ?_
              refine Ends.then ?_
              refine RunC.region ?_
              refine RunL.still rfl rfl rfl (Still.move rfl rfl) ?_
              refine RunL.still rfl rfl rfl (Still.add rfl rfl rfl (fits64 (by omega) (by omega))) ?_
              refine RunL.still rfl rfl rfl (Still.assign rfl rfl) ?_
              refine RunL.nil ?_
              refine Ends.again (v, f + 1, c) ?_ ?_ (Fr.Sub.app ?_ ?_) ?_
              · exact ⟨by show f + 1 ≤ 4; omega, by rw [mTo, hT]; exact mFace_free (.inr h99) (Decidable.not_not.1 h104)⟩
              · show 4 - (f + 1) < 4 - f; omega
              · exact Fr.Sub.cons rfl (Fr.Sub.cons rfl (Fr.Sub.nil _))
              · exact Fr.Sub.cons rfl (Fr.Sub.cons rfl (Fr.Sub.cons rfl (Fr.Sub.cons rfl (Fr.Sub.cons rfl (Fr.Sub.cons rfl (Fr.Sub.cons rfl (Fr.Sub.nil _)))))))
              · exact HSub.pick 2 rfl (HSub.pick 2 rfl (HSub.pick 2 rfl (HSub.pick 2 rfl (HSub.pick 2 rfl (HSub.pick 2 rfl (HSub.pick 2 rfl (HSub.nil _)))))))
          · have h99 := of_decide_eq_false h99
            obtain ⟨hxa, hxp⟩ := hX (by omega)
            obtain ⟨hyb, hyp⟩ := hY (by omega)
            refine RunC.skip ?_
            refine Ends.then ?_
            refine RunC.seq ?_
            refine RunC.meetG (γ := Nat) (keep := [(5, _), (6, _), (11, _), (12, _), (14, _), (15, _), (16, _), (17, _), (18, _), (19, _), (20, _)]) (hkeep := [_, _, _, _, _, _, _, _, _]) (fun b21 => True) (fun b21 => [(21, ptrV b21)]) (fun b21 => [HL.obj b21 (.cells #[iv (mWant a b c s f).a0, iv (mWant a b c s f).a1, iv (mWant a b c s f).a2, iv (mWant a b c s f).a3] 32 (0, 0))]) (Fr.Sub.cons rfl (Fr.Sub.cons rfl (Fr.Sub.cons rfl (Fr.Sub.cons rfl (Fr.Sub.cons rfl (Fr.Sub.cons rfl (Fr.Sub.cons rfl (Fr.Sub.cons rfl (Fr.Sub.cons rfl (Fr.Sub.cons rfl (Fr.Sub.cons rfl (Fr.Sub.nil _)))))))))))) (HSub.pick 0 rfl (HSub.pick 0 rfl (HSub.pick 0 rfl (HSub.pick 0 rfl (HSub.pick 0 rfl (HSub.pick 0 rfl (HSub.pick 0 rfl (HSub.pick 0 rfl (HSub.pick 0 rfl (HSub.nil _)))))))))) ?_ ?_
            ·
              refine RunC.draw 12 (.still 0 (.still 1 (.still 2 (.still 3 (.still 4 (.still 5 (.still 6 (.still 7 (.two 8 (.two 9 (.two 10 (.one 11 .done) 11 (.one 10 .done)) 11 (.one 9 (.one 10 .done))) 11 (.one 8 (.one 9 (.one 10 .done)))))))))))) (by kernel_rfl) (by kernel_rfl) ?_
              refine RunG.still rfl rfl rfl rfl (Still.fieldAddrL (off := 0) (off' := 1) rfl rfl Tryz.underlying34 rfl Tryz.sizeOf32 rfl) ?_
              refine RunG.still rfl rfl rfl rfl (Still.loads rfl rfl Tryz.isAgg32 Tryz.sizeOf32 (vs := [_, _, _, _]) rfl (fun _ hs => cells_nth (hs.at (i := 0) rfl) ⟨rfl, ⟨rfl, ⟨rfl, ⟨rfl, trivial⟩⟩⟩⟩)) ?_
              refine RunG.still rfl rfl rfl rfl (Still.move rfl rfl) ?_
              refine RunG.still rfl rfl rfl rfl (Still.move rfl rfl) ?_
              refine RunG.still rfl rfl rfl rfl (Still.indexOwn rfl rfl rfl Tryz.underlying43 Tryz.sizeOf32 (fun _ hs => hs.own (i := 3) rfl) (by omega)) ?_
              refine RunG.still rfl rfl rfl rfl (Still.loads rfl rfl Tryz.isAgg32 Tryz.sizeOf32 (vs := [iv (pAt c.by' s).a0, iv (pAt c.by' s).a1, iv (pAt c.by' s).a2, iv (pAt c.by' s).a3]) rfl (fun w hs => own_cells (hs.own (i := 3) rfl) (fun j u h => flat_get encP_len (pAt_get (by omega)) h))) ?_
              refine RunG.still rfl rfl rfl rfl (Still.fieldAddrL (off := 0) (off' := 1) rfl rfl Tryz.underlying34 rfl Tryz.sizeOf32 rfl) ?_
              refine RunG.still rfl rfl rfl rfl (Still.loads rfl rfl Tryz.isAgg32 Tryz.sizeOf32 (vs := [_, _, _, _]) rfl (fun _ hs => cells_nth (hs.at (i := 1) rfl) ⟨rfl, ⟨rfl, ⟨rfl, ⟨rfl, trivial⟩⟩⟩⟩)) ?_
              refine RunG.two ?_ ?_
              ·
                refine RunG.grows rfl rfl rfl rfl (Grows.call (vs := #[_]) rfl rfl Tryz.call38 (fun w hs => rf_Inverse_ok (mX a s f).p w hxp)) (fun _ _ => ?_)
                refine RunG.two ?_ ?_
                ·
                  refine RunG.grows rfl rfl rfl rfl (Grows.call (vs := #[_, _]) rfl rfl Tryz.call37 (fun w hs => rf_Compose_ok (pAt c.by' s) (invP (mX a s f).p) w hbs (invP_ok hxp))) (fun _ _ => ?_)
                  refine RunG.two ?_ ?_
                  ·
                    refine RunG.grows rfl rfl rfl rfl (Grows.call (vs := #[_, _]) rfl rfl Tryz.call37 (fun w hs => rf_Compose_ok (mY b c s f).p (compP (pAt c.by' s) (invP (mX a s f).p)) w hyp (comp_ok hbs (invP_ok hxp)))) (fun _ _ => ?_)
                    refine RunG.grows rfl rfl rfl rfl (Grows.alloc rfl Tryz.zeroValue32) (fun b21 _ => ?_)
                    refine RunG.done ?_
                    show RunL _ _ _ [_] _ _
                    refine RunL.does0 rfl rfl (Does.store rfl rfl rfl (i := 0) rfl Tryz.sizeOf32 rfl (rfl) rfl) (fun _ _ => ?_)
                    refine RunL.nil ?_
                    exact Ends.meetG b21 trivial (Fr.Sub.cons rfl (Fr.Sub.nil _)) (Fr.Sub.cons rfl (Fr.Sub.cons rfl (Fr.Sub.cons rfl (Fr.Sub.cons rfl (Fr.Sub.cons rfl (Fr.Sub.cons rfl (Fr.Sub.cons rfl (Fr.Sub.cons rfl (Fr.Sub.cons rfl (Fr.Sub.cons rfl (Fr.Sub.cons rfl (Fr.Sub.nil _)))))))))))) (HSub.pick 0 rfl (HSub.pick 0 rfl (HSub.pick 0 rfl (HSub.pick 0 rfl (HSub.pick 0 rfl (HSub.pick 0 rfl (HSub.pick 0 rfl (HSub.pick 0 rfl (HSub.pick 0 rfl (HSub.pick 0 rfl (HSub.nil _)))))))))))
                  ·
                    refine RunG.grows rfl rfl rfl rfl (Grows.alloc rfl Tryz.zeroValue32) (fun b21 _ => ?_)
                    refine RunG.grows rfl rfl rfl rfl (Grows.call (vs := #[_, _]) rfl rfl Tryz.call37 (fun w hs => rf_Compose_ok (mY b c s f).p (compP (pAt c.by' s) (invP (mX a s f).p)) w hyp (comp_ok hbs (invP_ok hxp)))) (fun _ _ => ?_)
                    refine RunG.done ?_
                    show RunL _ _ _ [_] _ _
                    refine RunL.does0 rfl rfl (Does.store rfl rfl rfl (i := 0) rfl Tryz.sizeOf32 rfl (rfl) rfl) (fun _ _ => ?_)
                    refine RunL.nil ?_
                    exact Ends.meetG b21 trivial (Fr.Sub.cons rfl (Fr.Sub.nil _)) (Fr.Sub.cons rfl (Fr.Sub.cons rfl (Fr.Sub.cons rfl (Fr.Sub.cons rfl (Fr.Sub.cons rfl (Fr.Sub.cons rfl (Fr.Sub.cons rfl (Fr.Sub.cons rfl (Fr.Sub.cons rfl (Fr.Sub.cons rfl (Fr.Sub.cons rfl (Fr.Sub.nil _)))))))))))) (HSub.pick 0 rfl (HSub.pick 0 rfl (HSub.pick 0 rfl (HSub.pick 0 rfl (HSub.pick 0 rfl (HSub.pick 0 rfl (HSub.pick 0 rfl (HSub.pick 0 rfl (HSub.pick 0 rfl (HSub.pick 0 rfl (HSub.nil _)))))))))))
                ·
                  refine RunG.grows rfl rfl rfl rfl (Grows.alloc rfl Tryz.zeroValue32) (fun b21 _ => ?_)
                  refine RunG.grows rfl rfl rfl rfl (Grows.call (vs := #[_, _]) rfl rfl Tryz.call37 (fun w hs => rf_Compose_ok (pAt c.by' s) (invP (mX a s f).p) w hbs (invP_ok hxp))) (fun _ _ => ?_)
                  refine RunG.grows rfl rfl rfl rfl (Grows.call (vs := #[_, _]) rfl rfl Tryz.call37 (fun w hs => rf_Compose_ok (mY b c s f).p (compP (pAt c.by' s) (invP (mX a s f).p)) w hyp (comp_ok hbs (invP_ok hxp)))) (fun _ _ => ?_)
                  refine RunG.done ?_
                  show RunL _ _ _ [_] _ _
                  refine RunL.does0 rfl rfl (Does.store rfl rfl rfl (i := 0) rfl Tryz.sizeOf32 rfl (rfl) rfl) (fun _ _ => ?_)
                  refine RunL.nil ?_
                  exact Ends.meetG b21 trivial (Fr.Sub.cons rfl (Fr.Sub.nil _)) (Fr.Sub.cons rfl (Fr.Sub.cons rfl (Fr.Sub.cons rfl (Fr.Sub.cons rfl (Fr.Sub.cons rfl (Fr.Sub.cons rfl (Fr.Sub.cons rfl (Fr.Sub.cons rfl (Fr.Sub.cons rfl (Fr.Sub.cons rfl (Fr.Sub.cons rfl (Fr.Sub.nil _)))))))))))) (HSub.pick 0 rfl (HSub.pick 0 rfl (HSub.pick 0 rfl (HSub.pick 0 rfl (HSub.pick 0 rfl (HSub.pick 0 rfl (HSub.pick 0 rfl (HSub.pick 0 rfl (HSub.pick 0 rfl (HSub.pick 0 rfl (HSub.nil _)))))))))))
              ·
                refine RunG.grows rfl rfl rfl rfl (Grows.alloc rfl Tryz.zeroValue32) (fun b21 _ => ?_)
                refine RunG.grows rfl rfl rfl rfl (Grows.call (vs := #[_]) rfl rfl Tryz.call38 (fun w hs => rf_Inverse_ok (mX a s f).p w hxp)) (fun _ _ => ?_)
                refine RunG.grows rfl rfl rfl rfl (Grows.call (vs := #[_, _]) rfl rfl Tryz.call37 (fun w hs => rf_Compose_ok (pAt c.by' s) (invP (mX a s f).p) w hbs (invP_ok hxp))) (fun _ _ => ?_)
                refine RunG.grows rfl rfl rfl rfl (Grows.call (vs := #[_, _]) rfl rfl Tryz.call37 (fun w hs => rf_Compose_ok (mY b c s f).p (compP (pAt c.by' s) (invP (mX a s f).p)) w hyp (comp_ok hbs (invP_ok hxp)))) (fun _ _ => ?_)
                refine RunG.done ?_
                show RunL _ _ _ [_] _ _
                refine RunL.does0 rfl rfl (Does.store rfl rfl rfl (i := 0) rfl Tryz.sizeOf32 rfl (rfl) rfl) (fun _ _ => ?_)
                refine RunL.nil ?_
                exact Ends.meetG b21 trivial (Fr.Sub.cons rfl (Fr.Sub.nil _)) (Fr.Sub.cons rfl (Fr.Sub.cons rfl (Fr.Sub.cons rfl (Fr.Sub.cons rfl (Fr.Sub.cons rfl (Fr.Sub.cons rfl (Fr.Sub.cons rfl (Fr.Sub.cons rfl (Fr.Sub.cons rfl (Fr.Sub.cons rfl (Fr.Sub.cons rfl (Fr.Sub.nil _)))))))))))) (HSub.pick 0 rfl (HSub.pick 0 rfl (HSub.pick 0 rfl (HSub.pick 0 rfl (HSub.pick 0 rfl (HSub.pick 0 rfl (HSub.pick 0 rfl (HSub.pick 0 rfl (HSub.pick 0 rfl (HSub.pick 0 rfl (HSub.nil _)))))))))))
            · rintro b21 _
              refine Ends.then ?_
              refine RunC.seq ?_
              refine RunC.conv (fun _ hs => hs.sub (HSub.pick 0 rfl (HSub.pick 0 rfl (HSub.pick 0 rfl (HSub.pick 0 rfl (HSub.pick 0 rfl (HSub.pick 0 rfl (HSub.pick 0 rfl (HSub.pick 0 rfl (HSub.pick 0 rfl (HSub.pick 0 rfl (HSub.nil _)))))))))))) ?_
              refine RunC.region ?_
              refine RunL.still rfl rfl rfl (Still.move rfl rfl) ?_
              refine RunL.still rfl rfl rfl (Still.fieldAddrL (off := 0) (off' := 0) rfl rfl Tryz.underlying34 rfl Tryz.sizeOf3 rfl) ?_
              refine RunL.still rfl rfl rfl (Still.load rfl rfl Tryz.isAgg3 (fun _ hs => cell_nth (hs.at (i := 2) rfl) rfl)) ?_
              refine RunL.still rfl rfl rfl (Still.indexOwnI (m := (mX a s f).tet.toNat) rfl rfl rfl Tryz.underlying36 Tryz.sizeOf3 (fun _ hs => hs.own (i := 3) rfl) (by omega) (by omega)) ?_
              refine RunL.still rfl rfl rfl (Still.load rfl rfl Tryz.isAgg3 (fun w hs => own_at (hs.own (i := 3) rfl) (ints_get (getD_get' (by omega))))) ?_
              refine RunL.still rfl rfl rfl (Still.lss rfl rfl rfl) ?_
              refine RunL.nil ?_
              refine Ends.then ?_
              refine RunC.cond rfl (fun h121 => ?_) (fun h121 => ?_)
              · have h121 := of_decide_eq_true h121
                refine RunC.seq ?_
                refine RunC.seq ?_
                refine RunC.region ?_
                refine RunL.still rfl rfl rfl (Still.move rfl rfl) ?_
                refine RunL.still rfl rfl rfl (Still.fieldAddrL (off := 0) (off' := 0) rfl rfl Tryz.underlying34 rfl Tryz.sizeOf3 rfl) ?_
                refine RunL.still rfl rfl rfl (Still.load rfl rfl Tryz.isAgg3 (fun _ hs => cell_nth (hs.at (i := 1) rfl) rfl)) ?_
                refine RunL.still rfl rfl rfl (Still.indexOwnI (m := (mY b c s f).tet.toNat) rfl rfl rfl Tryz.underlying71 Tryz.sizeOf4 (fun _ hs => hs.own (i := 5) rfl) (by omega) (by omega)) ?_
                refine RunL.still rfl rfl rfl (Still.load rfl rfl Tryz.isAgg4 (fun w hs => own_at (hs.own (i := 5) rfl) (bools_get (getD_get (by omega) false)))) ?_
                refine RunL.nil ?_
                refine Ends.then ?_
                refine RunC.cond rfl (fun h126 => ?_) (fun h126 => ?_)
                · skip
                  refine RunC.seq ?_
                  refine RunC.region ?_
                  refine RunL.still rfl rfl rfl (Still.assign rfl rfl) ?_
                  refine RunL.nil ?_
                  refine Ends.then ?_
                  refine RunC.ret ?_
                  refine Ends.then_ret ?_
                  refine Ends.block_ret ?_
                  refine Ends.then_ret ?_
                  refine Ends.then_ret ?_
                  refine Ends.block_ret ?_
                  refine Ends.block_ret ?_
                  refine Ends.then_ret ?_
                  refine Ends.then_ret ?_
                  refine Ends.block_ret ?_
                  refine Ends.then_ret ?_
                  refine Ends.leave (.inl rfl) (fun _ _ ok => results1 Tryz.results68 (Holds.tmp rfl) ok) (fun w3 hs => ?_)
                  exact Ret.intro () trivial (congrArg Value.bool (match_no hqe hM (by omega) hf4 hT (mFace_taken (by omega) h121 h126)).symm) (HSub.nil _) hs
                · skip
                  refine RunC.skip ?_
                  refine Ends.then ?_
                  refine RunC.seq ?_
                  refine RunC.conv (fun _ hs => hs.sub (HSub.pick 0 rfl (HSub.pick 0 rfl (HSub.pick 0 rfl (HSub.pick 0 rfl (HSub.pick 0 rfl (HSub.pick 0 rfl (HSub.pick 0 rfl (HSub.pick 0 rfl (HSub.pick 0 rfl (HSub.pick 0 rfl (HSub.nil _)))))))))))) ?_
                  refine RunC.region ?_
                  refine RunL.still rfl rfl rfl (Still.move rfl rfl) ?_
                  refine RunL.still rfl rfl rfl (Still.fieldAddrL (off := 0) (off' := 0) rfl rfl Tryz.underlying34 rfl Tryz.sizeOf3 rfl) ?_
                  refine RunL.still rfl rfl rfl (Still.load rfl rfl Tryz.isAgg3 (fun _ hs => cell_nth (hs.at (i := 2) rfl) rfl)) ?_
                  refine RunL.still rfl rfl rfl (Still.fieldAddrL (off := 0) (off' := 0) rfl rfl Tryz.underlying34 rfl Tryz.sizeOf3 rfl) ?_
                  refine RunL.still rfl rfl rfl (Still.load rfl rfl Tryz.isAgg3 (fun _ hs => cell_nth (hs.at (i := 1) rfl) rfl)) ?_
                  refine RunL.still rfl rfl rfl (Still.indexOwnI (m := (mX a s f).tet.toNat) rfl rfl rfl Tryz.underlying36 Tryz.sizeOf3 (fun _ hs => hs.own (i := 3) rfl) (by omega) (by omega)) ?_
                  refine RunL.does0 rfl rfl (Does.storeOwn1 (xs' := (ints (c.to.set (mX a s f).tet.toNat (mY b c s f).tet))) rfl rfl rfl rfl (i := 3) rfl Tryz.sizeOf3 rfl (by simp; omega) (ints_set _ _ _)) (fun _ _ => ?_)
                  refine RunL.nil ?_
                  refine Ends.then ?_
                  refine RunC.seq ?_
                  refine RunC.region ?_
                  refine RunL.still rfl rfl rfl (Still.move rfl rfl) ?_
                  refine RunL.still rfl rfl rfl (Still.fieldAddrL (off := 0) (off' := 0) rfl rfl Tryz.underlying34 rfl Tryz.sizeOf3 rfl) ?_
                  refine RunL.still rfl rfl rfl (Still.load rfl rfl Tryz.isAgg3 (fun _ hs => cell_nth (hs.at (i := 2) rfl) rfl)) ?_
                  refine RunL.still rfl rfl rfl (Still.loads rfl rfl Tryz.isAgg32 Tryz.sizeOf32 (vs := [_, _, _, _]) rfl (fun _ hs => cells_nth (hs.at (i := 0) rfl) ⟨rfl, ⟨rfl, ⟨rfl, ⟨rfl, trivial⟩⟩⟩⟩)) ?_
                  refine RunL.still rfl rfl rfl (Still.indexOwnI (m := (mX a s f).tet.toNat) rfl rfl rfl Tryz.underlying43 Tryz.sizeOf32 (fun _ hs => hs.own (i := 4) rfl) (by omega) (by omega)) ?_
                  refine RunL.does0 rfl rfl (Does.storeOwn (xs' := ((c.by'.set (mX a s f).tet.toNat (mWant a b c s f)).flatMap encP)) rfl rfl rfl rfl (i := 4) rfl Tryz.sizeOf32 rfl (by decide) rfl (by rw [flat_len encP_len]; (try simp); omega) (fun i => flat_set encP_len (by decide) _ (by omega) i)) (fun _ _ => ?_)
                  refine RunL.nil ?_
                  refine Ends.then ?_
                  refine RunC.seq ?_
                  refine RunC.conv (fun _ hs => hs.sub (HSub.pick 0 rfl (HSub.pick 0 rfl (HSub.pick 0 rfl (HSub.pick 0 rfl (HSub.pick 0 rfl (HSub.pick 0 rfl (HSub.pick 0 rfl (HSub.pick 0 rfl (HSub.pick 0 rfl (HSub.pick 0 rfl (HSub.nil _)))))))))))) ?_
                  refine RunC.region ?_
                  refine RunL.still rfl rfl rfl (Still.move rfl rfl) ?_
                  refine RunL.still rfl rfl rfl (Still.fieldAddrL (off := 0) (off' := 0) rfl rfl Tryz.underlying34 rfl Tryz.sizeOf3 rfl) ?_
                  refine RunL.still rfl rfl rfl (Still.load rfl rfl Tryz.isAgg3 (fun _ hs => cell_nth (hs.at (i := 1) rfl) rfl)) ?_
                  refine RunL.still rfl rfl rfl (Still.indexOwnI (m := (mY b c s f).tet.toNat) rfl rfl rfl Tryz.underlying71 Tryz.sizeOf4 (fun _ hs => hs.own (i := 5) rfl) (by omega) (by omega)) ?_
                  refine RunL.does0 rfl rfl (Does.storeOwn1 (xs' := (bools (c.tk.set (mY b c s f).tet.toNat true))) rfl rfl rfl rfl (i := 5) rfl Tryz.sizeOf4 rfl (by simp; omega) (bools_set _ _ _)) (fun _ _ => ?_)
                  refine RunL.nil ?_
                  refine Ends.then ?_
                  refine RunC.region ?_
                  refine RunL.still rfl rfl rfl (Still.move rfl rfl) ?_
                  refine RunL.still rfl rfl rfl (Still.fieldAddrL (off := 0) (off' := 0) rfl rfl Tryz.underlying34 rfl Tryz.sizeOf3 rfl) ?_
                  refine RunL.still rfl rfl rfl (Still.load rfl rfl Tryz.isAgg3 (fun _ hs => cell_nth (hs.at (i := 2) rfl) rfl)) ?_
                  refine RunL.grows rfl rfl rfl (Grows.slice1 rfl rfl Tryz.underlying36 Tryz.sizeOf3 rfl Tryz.zeroValue3 (by decide)) (fun b145 _ => ?_)
                  refine RunL.does rfl rfl rfl (Does.appendTo (n' := (c.q.length + 1)) (xs' := (nints (c.q ++ [(mX a s f).tet.toNat]))) (news := [_]) rfl rfl rfl rfl (i := 7) rfl Tryz.underlying36 (by kernel_rfl : (_ : Option _) = some (some (.int .i64 0), 1, 8)) rfl rfl (fun _ hs => cells_nth (hs.at (i := 0) rfl) ⟨rfl, trivial⟩) rfl rfl (by omega) (by omega) (rfl) ((congrArg (fun z => _ ++ [iv z]) (by omega)).trans (nints_snoc _ _))) (fun v146 hv146 => ?_)
                  refine RunL.still rfl rfl rfl (Still.assign rfl rfl) ?_
                  refine RunL.nil ?_
                  refine Ends.block ?_
                  refine Ends.then ?_
                  refine RunC.region ?_
                  refine RunL.still rfl rfl rfl (Still.move rfl rfl) ?_
                  refine RunL.still rfl rfl rfl (Still.add rfl rfl rfl (fits64 (by omega) (by omega))) ?_
                  refine RunL.still rfl rfl rfl (Still.assign rfl rfl) ?_
                  refine RunL.nil ?_
                  refine Ends.again (v146, f + 1, mPut c (mX a s f).tet.toNat (mY b c s f).tet (mWant a b c s f)) ?_ ?_ (Fr.Sub.app ?_ ?_) ?_
                  · exact ⟨by show f + 1 ≤ 4; omega, by rw [mTo, hT]; exact mFace_new (by omega) h121 h126⟩
                  · show 4 - (f + 1) < 4 - f; omega
                  · exact Fr.Sub.cons rfl (Fr.Sub.cons rfl (Fr.Sub.nil _))
                  · exact Fr.Sub.cons rfl (Fr.Sub.cons rfl (Fr.Sub.cons rfl (Fr.Sub.cons rfl (Fr.Sub.cons rfl (Fr.Sub.cons rfl (Fr.Sub.cons rfl (Fr.Sub.nil _)))))))
                  · exact HSub.pick 4 rfl (HSub.pick 4 rfl (HSub.pick 4 rfl (HSub.pick 4 (by show _ = some (HL.own 3 1 v146 (c.q ++ [(mX a s f).tet.toNat]).length (nints (c.q ++ [(mX a s f).tet.toNat]))); simp only [List.length_append, List.length_singleton]; rfl) (HSub.pick 4 rfl (HSub.pick 4 rfl (HSub.pick 4 rfl (HSub.nil _)))))))
              · have h121 := of_decide_eq_false h121
                refine RunC.seq ?_
                refine RunC.conv (fun _ hs => hs.sub (HSub.pick 0 rfl (HSub.pick 0 rfl (HSub.pick 0 rfl (HSub.pick 0 rfl (HSub.pick 0 rfl (HSub.pick 0 rfl (HSub.pick 0 rfl (HSub.pick 0 rfl (HSub.pick 0 rfl (HSub.pick 0 rfl (HSub.nil _)))))))))))) ?_
                refine RunC.draw 16 (.still 0 (.still 1 (.still 2 (.still 3 (.still 4 (.still 5 (.still 6 (.still 7 (.still 8 (.still 9 (.still 10 (.still 11 (.still 12 (.still 13 (.still 14 (.still 15 .done)))))))))))))))) (by kernel_rfl) (by kernel_rfl) ?_
                refine RunG.still rfl rfl rfl rfl (Still.move rfl rfl) ?_
                refine RunG.still rfl rfl rfl rfl (Still.fieldAddrL (off := 0) (off' := 0) rfl rfl Tryz.underlying34 rfl Tryz.sizeOf3 rfl) ?_
                refine RunG.still rfl rfl rfl rfl (Still.load rfl rfl Tryz.isAgg3 (fun _ hs => cell_nth (hs.at (i := 2) rfl) rfl)) ?_
                refine RunG.still rfl rfl rfl rfl (Still.indexOwnI (m := (mX a s f).tet.toNat) rfl rfl rfl Tryz.underlying36 Tryz.sizeOf3 (fun _ hs => hs.own (i := 3) rfl) (by omega) (by omega)) ?_
                refine RunG.still rfl rfl rfl rfl (Still.load rfl rfl Tryz.isAgg3 (fun w hs => own_at (hs.own (i := 3) rfl) (ints_get (getD_get' (by omega))))) ?_
                refine RunG.still rfl rfl rfl rfl (Still.fieldAddrL (off := 0) (off' := 0) rfl rfl Tryz.underlying34 rfl Tryz.sizeOf3 rfl) ?_
                refine RunG.still rfl rfl rfl rfl (Still.load rfl rfl Tryz.isAgg3 (fun _ hs => cell_nth (hs.at (i := 1) rfl) rfl)) ?_
                refine RunG.still rfl rfl rfl rfl (Still.neq rfl rfl rfl) ?_
                refine RunG.still rfl rfl rfl rfl (Still.move rfl rfl) ?_
                refine RunG.split (t := 155) rfl (fun h155 => ?_) (fun h155 => ?_)
                · have h155 := of_decide_eq_true h155
                  refine RunG.off rfl rfl rfl rfl ?_
                  refine RunG.off rfl rfl rfl rfl ?_
                  refine RunG.off rfl rfl rfl rfl ?_
                  refine RunG.off rfl rfl rfl rfl ?_
                  refine RunG.off rfl rfl rfl rfl ?_
                  refine RunG.off rfl rfl rfl rfl ?_
                  refine RunG.off rfl rfl rfl rfl ?_
                  refine RunG.done ?_
                  show RunL _ _ _ [_] _ _
                  refine RunL.still rfl rfl rfl (Still.pickT rfl rfl rfl) ?_
                  refine RunL.nil ?_
                  refine Ends.then ?_
                  refine RunC.cond_true rfl ?_
                  refine RunC.seq ?_
                  refine RunC.region ?_
                  refine RunL.still rfl rfl rfl (Still.assign rfl rfl) ?_
                  refine RunL.nil ?_
                  refine Ends.then ?_
                  refine RunC.ret ?_
                  refine Ends.block_ret ?_
                  refine Ends.then_ret ?_
                  refine Ends.then_ret ?_
                  refine Ends.block_ret ?_
                  refine Ends.block_ret ?_
                  refine Ends.then_ret ?_
                  refine Ends.then_ret ?_
                  refine Ends.block_ret ?_
                  refine Ends.then_ret ?_
                  refine Ends.leave (.inl rfl) (fun _ _ ok => results1 Tryz.results68 (Holds.tmp rfl) ok) (fun w4 hs => ?_)
                  exact Ret.intro () trivial (congrArg Value.bool (match_no hqe hM (by omega) hf4 hT (mFace_bad (by omega) h121 (fun h => h155 h.1))).symm) (HSub.nil _) hs
                · have h155 := of_decide_eq_false h155
                  refine RunG.still rfl rfl rfl rfl (Still.move rfl rfl) ?_
                  refine RunG.still rfl rfl rfl rfl (Still.fieldAddrL (off := 0) (off' := 0) rfl rfl Tryz.underlying34 rfl Tryz.sizeOf3 rfl) ?_
                  refine RunG.still rfl rfl rfl rfl (Still.load rfl rfl Tryz.isAgg3 (fun _ hs => cell_nth (hs.at (i := 2) rfl) rfl)) ?_
                  refine RunG.still rfl rfl rfl rfl (Still.indexOwnI (m := (mX a s f).tet.toNat) rfl rfl rfl Tryz.underlying43 Tryz.sizeOf32 (fun _ hs => hs.own (i := 4) rfl) (by omega) (by omega)) ?_
                  refine RunG.still rfl rfl rfl rfl (Still.loads rfl rfl Tryz.isAgg32 Tryz.sizeOf32 (vs := [iv (pAt c.by' (mX a s f).tet.toNat).a0, iv (pAt c.by' (mX a s f).tet.toNat).a1, iv (pAt c.by' (mX a s f).tet.toNat).a2, iv (pAt c.by' (mX a s f).tet.toNat).a3]) rfl (fun w hs => own_cells (hs.own (i := 4) rfl) (fun j u h => flat_get encP_len (pAt_get (by omega)) h))) ?_
                  refine RunG.still rfl rfl rfl rfl (Still.loads rfl rfl Tryz.isAgg32 Tryz.sizeOf32 (vs := [_, _, _, _]) rfl (fun _ hs => cells_nth (hs.at (i := 0) rfl) ⟨rfl, ⟨rfl, ⟨rfl, ⟨rfl, trivial⟩⟩⟩⟩)) ?_
                  refine RunG.still rfl rfl rfl rfl (Still.neqAgg rfl rfl rfl Tryz.eqGuardType32 (fun _ => eqP _ _ _ _ _ _ _ _ _ _)) ?_
                  refine RunG.done ?_
                  show RunL _ _ _ [_] _ _
                  refine RunL.still rfl rfl rfl (Still.pickF rfl rfl rfl) ?_
                  refine RunL.nil ?_
                  refine Ends.then ?_
                  refine RunC.cond rfl (fun h163 => ?_) (fun h163 => ?_)
                  · have hw163 : ¬ pAt c.by' (mX a s f).tet.toNat = (mWant a b c s f) := fun e => bnd_t h163 (p4_eq.2 e)
                    refine RunC.seq ?_
                    refine RunC.region ?_
                    refine RunL.still rfl rfl rfl (Still.assign rfl rfl) ?_
                    refine RunL.nil ?_
                    refine Ends.then ?_
                    refine RunC.ret ?_
                    refine Ends.block_ret ?_
                    refine Ends.then_ret ?_
                    refine Ends.then_ret ?_
                    refine Ends.block_ret ?_
                    refine Ends.block_ret ?_
                    refine Ends.then_ret ?_
                    refine Ends.then_ret ?_
                    refine Ends.block_ret ?_
                    refine Ends.then_ret ?_
                    refine Ends.leave (.inl rfl) (fun _ _ ok => results1 Tryz.results68 (Holds.tmp rfl) ok) (fun w5 hs => ?_)
                    exact Ret.intro () trivial (congrArg Value.bool (match_no hqe hM (by omega) hf4 hT (mFace_bad (by omega) h121 (fun h => hw163 h.2))).symm) (HSub.nil _) hs
                  · have h163 : pAt c.by' (mX a s f).tet.toNat = (mWant a b c s f) := p4_eq.1 (bnd_f h163)
                    refine RunC.skip ?_
                    refine Ends.block ?_
                    refine Ends.then ?_
                    refine RunC.region ?_
                    refine RunL.still rfl rfl rfl (Still.move rfl rfl) ?_
                    refine RunL.still rfl rfl rfl (Still.add rfl rfl rfl (fits64 (by omega) (by omega))) ?_
                    refine RunL.still rfl rfl rfl (Still.assign rfl rfl) ?_
                    refine RunL.nil ?_
                    refine Ends.again (v, f + 1, c) ?_ ?_ (Fr.Sub.app ?_ ?_) ?_
                    · exact ⟨by show f + 1 ≤ 4; omega, by rw [mTo, hT]; exact mFace_same (by omega) h121 (Decidable.not_not.1 h155) h163⟩
                    · show 4 - (f + 1) < 4 - f; omega
                    · exact Fr.Sub.cons rfl (Fr.Sub.cons rfl (Fr.Sub.nil _))
                    · exact Fr.Sub.cons rfl (Fr.Sub.cons rfl (Fr.Sub.cons rfl (Fr.Sub.cons rfl (Fr.Sub.cons rfl (Fr.Sub.cons rfl (Fr.Sub.cons rfl (Fr.Sub.nil _)))))))
                    · exact HSub.pick 3 rfl (HSub.pick 3 rfl (HSub.pick 3 rfl (HSub.pick 3 rfl (HSub.pick 3 rfl (HSub.pick 3 rfl (HSub.pick 3 rfl (HSub.nil _)))))))
      · have h67 := of_decide_eq_false h67
        obtain rfl : f = 4 := by omega
        refine RunC.exit ?_
        refine Ends.then_exit ?_
        refine Ends.then_exit ?_
        refine Ends.block_exit ?_
        refine Ends.block ?_
        refine Ends.then ?_
        refine RunC.region ?_
        refine RunL.still rfl rfl rfl (Still.move rfl rfl) ?_
        refine RunL.still rfl rfl rfl (Still.add rfl rfl rfl (fits64 (by omega) (by omega))) ?_
        refine RunL.still rfl rfl rfl (Still.assign rfl rfl) ?_
        refine RunL.nil ?_
        obtain ⟨k, rfl⟩ : ∃ j, k = j + 1 := ⟨k - 1, by have := (List.getElem?_eq_some_iff.1 hqe).1; omega⟩
        refine Ends.again (v, c, i + 1, k) ?_ ?_ (Fr.Sub.app ?_ ?_) ?_
        · exact ⟨hJ, by rw [← hM, mBfs_step hqe, hT]; rfl, by show i + 1 + k = _; omega⟩
        · exact Nat.lt_succ_self _
        · exact Fr.Sub.cons rfl (Fr.Sub.cons rfl (Fr.Sub.nil _))
        · exact Fr.Sub.cons rfl (Fr.Sub.cons rfl (Fr.Sub.cons rfl (Fr.Sub.cons rfl (Fr.Sub.cons rfl (Fr.Sub.nil _)))))
        · exact HSub.pick 0 rfl (HSub.pick 0 rfl (HSub.pick 0 rfl (HSub.pick 0 rfl (HSub.pick 0 rfl (HSub.pick 0 rfl (HSub.pick 0 rfl (HSub.nil _)))))))
    · have h59 := of_decide_eq_false h59
      refine RunC.exit ?_
      refine Ends.then_exit ?_
      refine Ends.then_exit ?_
      refine Ends.block_exit ?_
      refine Ends.then ?_
      refine RunC.seq ?_
      refine RunC.region ?_
      refine RunL.still rfl rfl rfl (Still.assign rfl rfl) ?_
      refine RunL.nil ?_
      refine Ends.then ?_
      refine RunC.ret ?_
      refine Ends.leave (.inl rfl) (fun _ _ ok => results1 Tryz.results68 (Holds.tmp rfl) ok) (fun w6 hs => ?_)
      exact Ret.intro () trivial (congrArg Value.bool (by rw [matchG, ← hM, mBfs_done (by omega)]; rfl)) (HSub.nil _) hs

end Go.Proofs
/- The proof layer, part y: regions that draw their order, whose operations yield the same in each order: one walk. -/
namespace Go.V
open Go
section anyk
def dstOf (ops : Array Oper) (i : Nat) : Option Nat := (ops[i]?).bind (·.dst)
def slotsOf (ops : Array Oper) : List Nat := ops.toList.filterMap (·.dst)
/-- Each operation has a slot of its own; edges lead back. -/
def kOk (ops : Array Oper) : Bool :=
  Region.noSelect ops && noDefer ops && (List.range ops.size).all fun i => (dstOf ops i).isSome && ((List.range i).all fun j => !decide (dstOf ops i = dstOf ops j)) && ((ops[i]?).map fun o => o.after.all fun e => Nat.blt e.on i).getD false
structure KInv (C : Cx) (ops : Array Oper) (F0 : Fr) (L : List HL) (vals : Nat → Value) (listed : Array Bool) (a : Act) (w : World) : Prop where
  size : listed.size = ops.size
  at0 : At C.n C.D F0 a
  got : ∀ i d, i < ops.size → listed.getD i false = true → dstOf ops i = some d → a.tmps[d]? = some (vals i)
  sym : Sym C.w0 C.S L w
def KS (C : Cx) (ops : Array Oper) (F0 : Fr) (L : List HL) (vals : Nat → Value) (i : Nat) : Prop :=
  ∀ listed a w, KInv C ops F0 L vals listed a w → i ∈ Region.ready .any ops listed → ∀ K : Act → World → Prop, (∀ a' w', KInv C ops F0 L vals (listed.setIfInBounds i true) a' w' → K a' w') → wpOpIn (FW C.r) 0 C.P ops NoQ i K a w
theorem kOk_at {ops : Array Oper} (h : kOk ops = true) {i : Nat} (hi : i < ops.size) : (∃ d, dstOf ops i = some d) ∧ (∀ j, j < i → dstOf ops i ≠ dstOf ops j) ∧ ∀ o, ops[i]? = some o → ∀ e ∈ o.after, e.on < i := by
  simp only [kOk, Bool.and_eq_true] at h
  have h1 := List.all_eq_true.1 h.2 i (List.mem_range.2 hi)
  simp only [Bool.and_eq_true] at h1
  refine ⟨Option.isSome_iff_exists.1 h1.1.1, fun j hj e => ?_, fun o ho e he => ?_⟩
  · have := List.all_eq_true.1 h1.1.2 j (List.mem_range.2 hj)
    simp [e] at this
  · have h2 := h1.2
    rw [ho] at h2
    have h2 : (o.after.all fun e => Nat.blt e.on i) = true := h2
    have := Array.all_eq_true_iff_forall_mem.1 h2 e he
    simpa using this
theorem dst_inj {ops : Array Oper} (h : kOk ops = true) {i j d : Nat} (hi : i < ops.size) (hj : j < ops.size) (e1 : dstOf ops i = some d) (e2 : dstOf ops j = some d) : i = j := by
  rcases Nat.lt_trichotomy i j with hl | hl | hl
  · exact absurd (e2.trans e1.symm) ((kOk_at h hj).2.1 i hl)
  · exact hl
  · exact absurd (e1.trans e2.symm) ((kOk_at h hi).2.1 j hl)
def unlisted (listed : Array Bool) : Nat := (listed.toList.filter fun b => !b).length
theorem unlisted_set {listed : Array Bool} {i : Nat} (h : listed.getD i true = false) : unlisted listed = unlisted (listed.setIfInBounds i true) + 1 := by
  have hi : i < listed.size := by
    rcases Nat.lt_or_ge i listed.size with h1 | h1
    · exact h1
    · rw [Array.getD_eq_getD_getElem?, Array.getElem?_eq_none h1] at h; cases h
  have key : ∀ (l : List Bool) (i : Nat), l[i]? = some false → (l.filter fun b => !b).length = ((l.set i true).filter fun b => !b).length + 1 := by
    intro l
    induction l with
    | nil => intro i hi; simp at hi
    | cons b r ih =>
      intro i hi
      cases i with
      | zero => simp at hi; subst hi; simp
      | succ i =>
        have := ih i (by simpa using hi)
        cases b <;> simp at this ⊢ <;> omega
  have h2 : listed.toList[i]? = some false := by
    rw [Array.getD_eq_getD_getElem?, Array.getElem?_eq_getElem hi] at h
    rw [Array.getElem?_toList, Array.getElem?_eq_getElem hi]
    simpa using h
  rw [unlisted, unlisted, Array.toList_setIfInBounds]
  exact key _ _ h2
theorem head_of_KS {C : Cx} {ops : Array Oper} {F0 : Fr} {L : List HL} {vals : Nat → Value} {T : Act → World → Prop} (hB : kOk ops = true) (hk : ∀ i, i < ops.size → KS C ops F0 L vals i)
    (hT : ∀ listed a w, KInv C ops F0 L vals listed a w → (∀ i, i < ops.size → listed.getD i false = true) → T a w) :
    ∀ (f : Nat) (listed : Array Bool) (a : Act) (w : World), KInv C ops F0 L vals listed a w → unlisted listed = f → wpHeadP C.r C.P .any ops (fun _ a w => T a w) f listed a w
  | 0, listed, a, w, inv, hf => by
    have hall : ∀ i, i < ops.size → listed.getD i true = true := fun i hi => by
      cases h : listed.getD i true
      · have := unlisted_set h; omega
      · rfl
    have hall' : ∀ i, i < ops.size → listed.getD i false = true := fun i hi => by
      have h := hall i hi
      have hs : i < listed.size := by rw [inv.size]; exact hi
      rw [Array.getD_eq_getD_getElem?, Array.getElem?_eq_getElem hs] at h ⊢
      simpa using h
    refine ⟨?_, hT listed a w inv hall'⟩
    apply List.eq_nil_iff_forall_not_mem.2
    intro j hj
    obtain ⟨h1, o, ho, _⟩ := mem_ready.1 hj
    have hjs : j < ops.size := (Array.getElem?_eq_some_iff.1 ho).1
    rw [hall j hjs] at h1; cases h1
  | f + 1, listed, a, w, inv, hf => by
    refine ⟨fun h0 => ?_, fun i hi => ?_⟩
    · -- the first that is not listed is ready
      have hex : ∃ i, i < ops.size ∧ listed.getD i true = false := by
        by_cases h : ∃ i, i < ops.size ∧ listed.getD i true = false
        · exact h
        · exfalso
          have : unlisted listed = 0 := by
            rw [unlisted, List.length_eq_zero_iff, List.filter_eq_nil_iff]
            intro b hb hb2
            obtain ⟨i, hi⟩ := List.getElem?_of_mem hb
            have hil := (List.getElem?_eq_some_iff.1 hi).1
            have hil2 : i < listed.size := by simpa using hil
            refine h ⟨i, by rw [← inv.size]; exact hil2, ?_⟩
            rw [Array.getElem?_toList] at hi
            rw [Array.getD_eq_getD_getElem?, hi]
            cases b <;> simp at hb2 ⊢
          omega
      have key : ∀ n i, i < n → i < ops.size → listed.getD i true = false → ∃ j, j ∈ Region.ready .any ops listed := by
        intro n
        induction n with
        | zero => intro i hi; omega
        | succ n ih =>
          intro i hi his hl
          by_cases hr : i ∈ Region.ready .any ops listed
          · exact ⟨i, hr⟩
          · obtain ⟨o, ho⟩ : ∃ o, ops[i]? = some o := ⟨ops[i], Array.getElem?_eq_getElem his⟩
            have hne : ¬ ∀ e ∈ o.after, Region.binds .any e = true → listed.getD e.on false = true := fun h => hr (mem_ready.2 ⟨hl, o, ho, h⟩)
            have : ∃ e, e ∈ o.after ∧ ¬ listed.getD e.on false = true := by
              by_cases hx : ∃ e, e ∈ o.after ∧ ¬ listed.getD e.on false = true
              · exact hx
              · exact absurd (fun e he _ => by by_cases h3 : listed.getD e.on false = true; exact h3; exact absurd ⟨e, he, h3⟩ hx) hne
            obtain ⟨e, he, h3⟩ := this
            have hlt := (kOk_at hB his).2.2 o ho e he
            have hes : e.on < listed.size := by rw [inv.size]; omega
            refine ih e.on (by omega) (by omega) ?_
            rw [Array.getD_eq_getD_getElem?, Array.getElem?_eq_getElem hes] at h3 ⊢
            simpa using h3
      obtain ⟨i, his, hl⟩ := hex
      obtain ⟨j, hj⟩ := key (i + 1) i (by omega) his hl
      rw [h0] at hj; cases hj
    · obtain ⟨hl, o, ho, _⟩ := mem_ready.1 hi
      have his : i < ops.size := (Array.getElem?_eq_some_iff.1 ho).1
      refine hk i his listed a w inv hi _ (fun a' w' inv' => head_of_KS hB hk hT f _ a' w' inv' ?_)
      have := unlisted_set hl; omega
/-- The operations so far yield the values of A (the last one first). -/
def SA (ops : Array Oper) (A : Fr) : Prop := ∀ i, i < A.length → ∃ d v, A[A.length - 1 - i]? = some (d, v) ∧ dstOf ops i = some d
def Agree (A : Fr) (vals : Nat → Value) : Prop := ∀ i d v, i < A.length → A[A.length - 1 - i]? = some (d, v) → vals i = v
def RunK (C : Cx) (id : Nat) (l : List Oper) (Q : Exit → Act → World → Prop) (F0 : Fr) (L : List HL) (A : Fr) : Prop :=
  kOk l.toArray = true → SA l.toArray A → (∀ vals, Agree A vals → ∀ i, i < A.length → KS C l.toArray F0 L vals i) → ∀ a w, At C.n C.D F0 a → Sym C.w0 C.S L w → (Code.region id l.toArray true).wpIn (FW C.r) 0 C.P Q a w
variable {C : Cx} {Q : Exit → Act → World → Prop} {F F0 A : Fr} {L : List HL} {id : Nat} {l : List Oper}
theorem RunC.anyK (hB : kOk l.toArray = true) (h : RunK C id l Q (F.forget (slotsOf l.toArray)) L []) : RunC C (.region id l.toArray true) Q F L := fun a w ok =>
  h hB (fun i hi => absurd hi (Nat.not_lt_zero i)) (fun _ _ i hi => absurd hi (Nat.not_lt_zero i)) a w (ok.fr.sub (Fr.Sub.forget _ _)) ok.sym
theorem fr_mem {F : Fr} {t : Nat} {v : Value} (h : F.get t = some v) : (t, v) ∈ F := by
  induction F with
  | nil => simp [Fr.get] at h
  | cons p r ih =>
    obtain ⟨k, u⟩ := p
    rw [Fr.get_cons] at h
    by_cases e : k = t
    · rw [if_pos e] at h; cases h; subst e; exact List.mem_cons_self ..
    · rw [if_neg e] at h; exact List.mem_cons_of_mem _ (ih h)
theorem RunK.done (hm : C.P.follows .mixedOrders = true) (hl : Nat.beq A.length l.toArray.size = true) (h : Ends C .normal Q (A ++ F0) L) : RunK C id l Q F0 L A := fun hB hS hg a w h0 hs => by
  have hl : A.length = l.toArray.size := Nat.eq_of_beq_eq_true hl
  let vals : Nat → Value := fun i => ((A[A.length - 1 - i]?).map (·.2)).getD undef
  have hA : Agree A vals := fun i d v _ e => by show ((A[A.length - 1 - i]?).map (·.2)).getD undef = v; rw [e]; rfl
  have hk := hg vals hA
  have inv0 : KInv C l.toArray F0 L vals (Array.replicate l.toArray.size false) a w.drew :=
    ⟨by simp, h0, fun i d hi hl => (by rw [Array.getD_eq_getD_getElem?, Array.getElem?_replicate] at hl; split at hl <;> simp at hl), hs.drew⟩
  have H := head_of_KS (T := fun a w => Q .normal a w) hB (fun i hi => hk i (by omega)) (fun listed a w inv hall => by
    refine h a w ⟨⟨inv.at0.size, inv.at0.defers, fun t v ht => ?_⟩, inv.sym⟩
    rw [Fr.get_append] at ht
    cases hA1 : Fr.get A t with
    | none => rw [hA1] at ht; exact inv.at0.slot t v ht
    | some u =>
      rw [hA1] at ht
      have e : u = v := by simpa using ht
      subst e
      obtain ⟨j, hj⟩ := List.getElem?_of_mem (fr_mem hA1)
      have hjl := (List.getElem?_eq_some_iff.1 hj).1
      have hi : A.length - 1 - j < A.length := by omega
      obtain ⟨d, v', e1, e2⟩ := hS _ hi
      rw [show A.length - 1 - (A.length - 1 - j) = j by omega, hj] at e1
      cases e1
      rw [inv.got _ t (by omega) (hall _ (by omega)) e2]
      show some (((A[A.length - 1 - (A.length - 1 - j)]?).map (·.2)).getD undef) = some u
      rw [show A.length - 1 - (A.length - 1 - j) = j by omega, hj]; rfl) _ _ _ _ inv0 rfl
  have hu : unlisted (Array.replicate l.toArray.size false) = l.toArray.size := by simp [unlisted]
  rw [hu] at H
  exact wpIn_region_any hm (wpAny_of_headP _ _ _ _ H)
def tsOk (ops : Array Oper) (o : Oper) (ts : List Nat) : Bool := ts.all fun t => o.after.toList.any fun e => Region.binds .any e && (match dstOf ops e.on with | some d => Nat.beq d t | none => false)
/-- What an operation may look at: what it must come behind. -/
def onlyK (ts : List Nat) (A : Fr) : Fr := A.filter fun p => ts.elem p.1
theorem ok_of_inv {vals : Nat → Value} {listed : Array Bool} {a : Act} {w : World} {k : Nat} {o : Oper} {ts : List Nat} (hB : kOk l.toArray = true) (hS : SA l.toArray A) (hAg : Agree A vals) (hlen : A.length = k) (hks : k < l.toArray.size) (ho : l.toArray[k]? = some o) (hts : tsOk l.toArray o ts = true)
    (inv : KInv C l.toArray F0 L vals listed a w) (hr : k ∈ Region.ready .any l.toArray listed) : Ok C (onlyK ts A ++ F0) L a w := by
  refine ⟨⟨inv.at0.size, inv.at0.defers, fun t v ht => ?_⟩, inv.sym⟩
  rw [Fr.get_append] at ht
  cases hA1 : Fr.get (onlyK ts A) t with
  | none => rw [hA1] at ht; exact inv.at0.slot t v ht
  | some u =>
    rw [hA1] at ht
    have e : u = v := by simpa using ht
    subst e
    have hm := List.mem_filter.1 (fr_mem hA1)
    have ht2 : t ∈ ts := by simpa using hm.2
    have h1 := List.all_eq_true.1 hts t ht2
    obtain ⟨e, he', h2⟩ := List.any_eq_true.1 h1
    have he : e ∈ o.after := by simpa using he'
    rw [Bool.and_eq_true] at h2
    obtain ⟨j, hj⟩ := List.getElem?_of_mem hm.1
    have hjl := (List.getElem?_eq_some_iff.1 hj).1
    obtain ⟨d, v', e1, e2⟩ := hS (A.length - 1 - j) (by omega)
    rw [show A.length - 1 - (A.length - 1 - j) = j by omega, hj] at e1
    cases e1
    have e3 : dstOf l.toArray e.on = some t := by
      have h3 := h2.2
      cases hd : dstOf l.toArray e.on with
      | none => rw [hd] at h3; cases h3
      | some d => rw [hd] at h3; rw [Nat.eq_of_beq_eq_true h3]
    have hlt := (kOk_at hB hks).2.2 o ho e he
    have hei : e.on = A.length - 1 - j := dst_inj hB (by omega) (by omega) e3 e2
    obtain ⟨_, o', ho', hall⟩ := mem_ready.1 hr
    rw [ho] at ho'; cases ho'
    have := inv.got e.on t (by omega) (hall e he h2.1) e3
    rw [this]
    have hv := hAg (A.length - 1 - j) t u (by omega) (by rw [show A.length - 1 - (A.length - 1 - j) = j by omega]; exact hj)
    rw [hei, hv]
theorem inv_put {vals : Nat → Value} {listed : Array Bool} {a : Act} {w w' : World} {k d : Nat} (hB : kOk l.toArray = true) (hks : k < l.toArray.size) (hd : dstOf l.toArray k = some d) (hn : d < C.n) (hF0 : F0.get d = none)
    (inv : KInv C l.toArray F0 L vals listed a w) (hs : Sym C.w0 C.S L w') : KInv C l.toArray F0 L vals (listed.setIfInBounds k true) (a.put (some d) (vals k)) w' := by
  have hp := inv.at0.put hn (vals k)
  refine ⟨by simp [inv.size], ⟨hp.size, hp.defers, fun t v ht => hp.slot t v (by
    rw [Fr.get_cons, if_neg (fun e => by subst e; rw [hF0] at ht; cases ht)]; exact ht)⟩, fun i d' hi hl hd' => ?_, hs⟩
  have hsz : d < a.tmps.size := by rw [inv.at0.size]; exact hn
  by_cases e : k = i
  · subst e
    rw [hd] at hd'; cases hd'
    show (a.tmps.setIfInBounds d (vals k))[d]? = _
    rw [Array.getElem?_setIfInBounds_self_of_lt hsz]
  · have hne : d ≠ d' := fun e2 => e (dst_inj hB hks hi hd (e2 ▸ hd'))
    show (a.tmps.setIfInBounds d (vals k))[d']? = _
    rw [Array.getElem?_setIfInBounds_ne hne]
    refine inv.got i d' hi ?_ hd'
    rw [Array.getD_eq_getD_getElem?, Array.getElem?_setIfInBounds_ne e] at hl
    rw [Array.getD_eq_getD_getElem?]; exact hl
theorem RunK.snoc {k d : Nat} {v : Value} {o : Oper} (hk : A.length = k) (ho : l.toArray[k]? = some o) (hd : o.dst = some d)
    (hks : kOk l.toArray = true → ∀ vals, SA l.toArray A → Agree A vals → vals k = v → KS C l.toArray F0 L vals k) (h : RunK C id l Q F0 L ((d, v) :: A)) : RunK C id l Q F0 L A := fun hB hS hg => by
  have hlen : ((d, v) :: A).length = k + 1 := by simp [hk]
  have hold : ∀ i, i < k → ((d, v) :: A)[((d, v) :: A).length - 1 - i]? = A[A.length - 1 - i]? := fun i hi => by
    rw [hlen, show k + 1 - 1 - i = (k - 1 - i) + 1 by omega, List.getElem?_cons_succ, hk]
  refine h hB (fun i hi => ?_) (fun vals hA i hi => ?_)
  · rcases Nat.lt_or_ge i k with h1 | h1
    · rw [hold i h1]; exact hS i (by omega)
    · obtain rfl : i = k := by omega
      exact ⟨d, v, by rw [hlen, show i + 1 - 1 - i = 0 by omega]; rfl, by rw [dstOf, ho]; exact hd⟩
  · have hA' : Agree A vals := fun j d' v' hj e => hA j d' v' (by omega) (by rw [hold j (by omega)]; exact e)
    rcases Nat.lt_or_ge i k with h1 | h1
    · exact hg vals hA' i (by omega)
    · obtain rfl : i = k := by omega
      exact hks hB vals hS hA' (hA i d v (by omega) (by rw [hlen, show i + 1 - 1 - i = 0 by omega]; rfl))
theorem RunK.grows {d : Nat} {v : Value} {o : Oper} (ts : List Nat) (ho : l.toArray[A.length]? = some o) (hts : tsOk l.toArray o ts = true) (hw : wants l.toArray (onlyK ts A ++ F0) o = some true) (hd : o.dst = some d) (hn : Nat.blt d C.n = true) (hF0 : F0.get d = none)
    (hg : Grows C o (onlyK ts A ++ F0) L (fun _ : Unit => True) (fun _ => v) (fun _ => [])) (h : RunK C id l Q F0 L ((d, v) :: A)) : RunK C id l Q F0 L A :=
  RunK.snoc rfl ho hd (fun hB vals hS hAg hv listed a w inv hr K hK => by
    have hks : A.length < l.toArray.size := (Array.getElem?_eq_some_iff.1 ho).1
    have ok := ok_of_inv hB hS hAg rfl hks ho hts inv hr
    unfold wpOpIn
    simp only [ho, wants_ok ok hw, if_true]
    refine hg a w ok _ _ (fun _ w' _ _ hs => hK _ w' ?_)
    rw [hd, ← hv]
    exact inv_put hB hks (by rw [dstOf, ho]; exact hd) (by simpa using hn) hF0 inv hs) h
theorem RunK.still {d : Nat} {v : Value} {o : Oper} (ts : List Nat) (ho : l.toArray[A.length]? = some o) (hts : tsOk l.toArray o ts = true) (hw : wants l.toArray (onlyK ts A ++ F0) o = some true) (hd : o.dst = some d) (hn : Nat.blt d C.n = true) (hF0 : F0.get d = none)
    (hg : Still C o (onlyK ts A ++ F0) L v) (h : RunK C id l Q F0 L ((d, v) :: A)) : RunK C id l Q F0 L A :=
  RunK.snoc rfl ho hd (fun hB vals hS hAg hv listed a w inv hr K hK => by
    have hks : A.length < l.toArray.size := (Array.getElem?_eq_some_iff.1 ho).1
    have ok := ok_of_inv hB hS hAg rfl hks ho hts inv hr
    unfold wpOpIn
    simp only [ho, wants_ok ok hw, if_true]
    refine still_wpIn hg ok (hK _ w ?_)
    rw [hd, ← hv]
    exact inv_put hB hks (by rw [dstOf, ho]; exact hd) (by simpa using hn) hF0 inv inv.sym) h
theorem RunK.off {d : Nat} {o : Oper} (ts : List Nat) (ho : l.toArray[A.length]? = some o) (hts : tsOk l.toArray o ts = true) (hw : wants l.toArray (onlyK ts A ++ F0) o = some false) (hd : o.dst = some d) (hn : Nat.blt d C.n = true) (hF0 : F0.get d = none)
    (h : RunK C id l Q F0 L ((d, undef) :: A)) : RunK C id l Q F0 L A :=
  RunK.snoc rfl ho hd (fun hB vals hS hAg hv listed a w inv hr K hK => by
    have hks : A.length < l.toArray.size := (Array.getElem?_eq_some_iff.1 ho).1
    have ok := ok_of_inv hB hS hAg rfl hks ho hts inv hr
    unfold wpOpIn
    simp only [ho, wants_ok ok hw, Bool.false_eq_true, if_false]
    refine ⟨fun _ _ => trivial, hK _ w ?_⟩
    rw [hd, ← hv]
    exact inv_put hB hks (by rw [dstOf, ho]; exact hd) (by simpa using hn) hF0 inv inv.sym) h
theorem RunK.again {t : Nat} {u v : Value} (e : v = u) (h : RunK C id l Q F0 L ((t, u) :: A)) : RunK C id l Q F0 L ((t, v) :: A) := e ▸ h
theorem RunK.split {t : Nat} {b : Bool} (h1 : b = true → RunK C id l Q F0 L ((t, .bool true) :: A)) (h2 : b = false → RunK C id l Q F0 L ((t, .bool false) :: A)) : RunK C id l Q F0 L ((t, .bool b) :: A) := by
  cases b
  · exact h2 rfl
  · exact h1 rfl
end anyk
end Go.V
