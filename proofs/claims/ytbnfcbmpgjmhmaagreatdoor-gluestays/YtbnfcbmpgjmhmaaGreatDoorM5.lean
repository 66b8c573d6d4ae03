/- Unions of gluings: contracts of both texts. -/
import Derived.Test.YtbnfcbmpgjmhmaaGreatDoorM4
import Derived.Test.YtbnfcbmpgjmhmaaGreatDoorM1
import Derived.Test.YtbnfcbmpgjmhmaaGreatDoorProg
import Derived.KernelRfl
import Derived.Test.YtbnfcbmpgjmhmaaGreatDoorRows
import Derived.LaidMore
import Derived.Stop.Joined
import Derived.Carry
import Derived.Lay
namespace Go.Proofs
open Go Go.V
set_option maxRecDepth 20000
theorem gl_Clone_some (B A : Addr) (cap : Nat) (g : Glu) (w : World) (hg : GluAt w (some B) A g) (h1000 : g.length ≤ 1000) : Gives Tryz.prog 54 #[.slice (some B) g.length cap] w Nil (fun v : Value => Shape v g.length) (fun v => v) (fun v => [HL.own 35 20 v g.length (g.flatMap encT)]) := by
  refine fn_of_run (S := Nil) (args := [.slice (some B) g.length cap]) (n := 8) (L := []) Tryz.func54 rfl Tryz.ntmps54 (Nat.le_of_ble_eq_true rfl) (Sym.nil _ _) ?_
  change RunC _ _ _ [(0, _)] _
  refine RunC.seq ?_
  refine RunC.region ?_
  refine RunL.still rfl rfl rfl (Still.assign rfl rfl) ?_
  refine RunL.nil ?_
  refine Ends.then ?_
  refine RunC.seq ?_
  refine RunC.seq ?_
  refine RunC.region ?_
  refine RunL.still rfl rfl rfl (Still.move rfl rfl) ?_
  refine RunL.still rfl rfl rfl (Still.eqlNil rfl rfl rfl Tryz.underlying22) ?_
  refine RunL.nil ?_
  refine Ends.then ?_
  refine RunC.cond rfl (fun h4 => ?_) (fun h4 => ?_)
  · skip
    exact absurd h4 (by simp)
  · skip
    refine RunC.skip ?_
    refine Ends.then ?_
    refine RunC.seq ?_
    refine RunC.region ?_
    refine RunL.grows rfl rfl rfl (Grows.empty rfl Tryz.underlying22 Tryz.sizeOf35 Tryz.zeroValue35) (fun b5 _ => ?_)
    refine RunL.still rfl rfl rfl (Still.move rfl rfl) ?_
    refine RunL.does rfl rfl rfl (Does.appendAny (n' := g.length) (xs' := (g.flatMap encT)) (news := (g.flatMap encT)) rfl rfl rfl rfl (fun h0 => hg.base h0) (i := 0) rfl Tryz.underlying22 (by kernel_rfl : Tryz.prog.info? 35 = some Tryz.t35) (by kernel_rfl : (_ : Option _) = some (some (.agg #[.int .i64 0, .int .i64 0, .int .i64 0, .int .i64 0, .int .i64 0, .int .i64 0, .int .i64 0, .int .i64 0, .int .i64 0, .int .i64 0, .int .i64 0, .int .i64 0, .int .i64 0, .int .i64 0, .int .i64 0, .int .i64 0, .int .i64 0, .int .i64 0, .int .i64 0, .int .i64 0]), 20, 160)) rfl rfl (fun w hs => hg.cells.base0 hs) (flat_len encT_len _) (encT_one _) (by omega) (by omega) (Nat.zero_add _) (rfl)) (fun v7 hv7 => ?_)
    refine RunL.still rfl rfl rfl (Still.assign rfl rfl) ?_
    refine RunL.nil ?_
    refine Ends.then ?_
    refine RunC.ret ?_
    refine Ends.leave (.inl rfl) (fun _ _ ok => results1 Tryz.results54 (Holds.tmp rfl) ok) (fun w1 hs => ?_)
    exact Ret.intro v7 (own_shape (hs.own (i := 0) rfl)) rfl (HSub.pick 0 rfl (HSub.nil _)) hs

theorem gl_Clone_none (cap : Nat) (g : Glu) (w : World) (h0 : g = []) : Gives Tryz.prog 54 #[.slice none g.length cap] w Nil (fun v : Value => Shape v g.length) (fun v => v) (fun v => [HL.own 35 20 v g.length (g.flatMap encT)]) := by
  refine fn_of_run (S := Nil) (args := [.slice none g.length cap]) (n := 8) (L := []) Tryz.func54 rfl Tryz.ntmps54 (Nat.le_of_ble_eq_true rfl) (Sym.nil _ _) ?_
  change RunC _ _ _ [(0, _)] _
  refine RunC.seq ?_
  refine RunC.region ?_
  refine RunL.still rfl rfl rfl (Still.assign rfl rfl) ?_
  refine RunL.nil ?_
  refine Ends.then ?_
  refine RunC.seq ?_
  refine RunC.seq ?_
  refine RunC.region ?_
  refine RunL.still rfl rfl rfl (Still.move rfl rfl) ?_
  refine RunL.still rfl rfl rfl (Still.eqlNil rfl rfl rfl Tryz.underlying22) ?_
  refine RunL.nil ?_
  refine Ends.then ?_
  refine RunC.cond rfl (fun h4 => ?_) (fun h4 => ?_)
  · skip
    refine RunC.seq ?_
    refine RunC.region ?_
    refine RunL.still rfl rfl rfl (Still.assign rfl rfl) ?_
    refine RunL.nil ?_
    refine Ends.then ?_
    refine RunC.ret ?_
    refine Ends.then_ret ?_
    refine Ends.leave (.inl rfl) (fun _ _ ok => results1 Tryz.results54 (Holds.tmp rfl) ok) (fun w1 hs => ?_)
    exact Ret.intro (.slice none 0 0) (by rw [h0]; exact ⟨none, 0, rfl, fun h => absurd h (by decide)⟩) rfl (HSub.pick 0 (by rw [h0]; rfl) (HSub.nil _)) (hs.own_nil 35 20)
  · skip
    exact absurd h4 (by decide)

theorem gl_Clone (base : Option Addr) (A : Addr) (cap : Nat) (g : Glu) (w : World) (hg : GluAt w base A g) (h1000 : g.length ≤ 1000) : Gives Tryz.prog 54 #[.slice base g.length cap] w Nil (fun v : Value => Shape v g.length) (fun v => v) (fun v => [HL.own 35 20 v g.length (g.flatMap encT)]) := by
  cases base with
  | some B => exact gl_Clone_some B A cap g w hg h1000
  | none =>
    refine gl_Clone_none cap g w ?_
    rcases Nat.eq_zero_or_pos g.length with h0 | h0
    · exact List.length_eq_zero_iff.1 h0
    · exact absurd (hg.base h0) (by simp)

theorem gl_shifted (base : Option Addr) (A : Addr) (cap : Nat) (g : Glu) (k : Nat) (w : World) (hg : GluAt w base A g) (hk : k ≤ 1000) (hok : okG g = true) : Gives Tryz.prog 55 #[gluV base cap g, iv (k : Int)] w Nil (fun v : Value => Shape v g.length) (fun v => v) (fun v => [HL.own 35 20 v g.length ((g.map fun t => mapF t (shF k)).flatMap encT)]) := by
  have h1000 := okG_len hok
  refine fn_of_run (S := Nil) (args := [gluV base cap g, iv (k : Int)]) (n := 39) (L := []) Tryz.func55 rfl Tryz.ntmps55 (Nat.le_of_ble_eq_true rfl) (Sym.nil _ _) ?_
  change RunC _ _ _ [(0, _), (1, _)] _
  refine RunC.seq ?_
  refine RunC.region ?_
  refine RunL.grows rfl rfl rfl (Grows.box rfl rfl) (fun b2 _ => ?_)
  refine RunL.still rfl rfl rfl (Still.assign rfl rfl) ?_
  refine RunL.nil ?_
  refine Ends.then ?_
  refine RunC.seq ?_
  refine RunC.region ?_
  refine RunL.still rfl rfl rfl (Still.assign rfl rfl) ?_
  refine RunL.own_nil 35 20 ?_
  refine RunL.nil ?_
  refine Ends.then ?_
  refine RunC.seq ?_
  refine RunC.seq ?_
  refine RunC.region ?_
  refine RunL.still rfl rfl rfl (Still.fieldAddrL (off := 0) (off' := 0) rfl rfl Tryz.underlying24 rfl Tryz.sizeOf22 rfl) ?_
  refine RunL.still rfl rfl rfl (Still.load rfl rfl Tryz.isAgg22 (fun _ hs => cell_nth (hs.at (i := 1) rfl) rfl)) ?_
  refine RunL.still rfl rfl rfl (Still.lenSlice rfl rfl Tryz.underlying22) ?_
  refine RunL.still rfl rfl rfl (Still.move rfl rfl) ?_
  refine RunL.nil ?_
  refine Ends.then ?_
  refine RunC.block ?_
  refine RunC.loop2 (γ := Value × Nat) (keep := [(1, _), (10, _), (11, _)]) (hkeep := [_]) (fun (v, t) => t ≤ g.length) (fun (v, t) => g.length - t) (fun (v, t) => [(5, v), (12, iv t)]) (fun (v, t) => [HL.own 35 20 v t (((g.take t).map (fun t => mapF t (shF k))).flatMap encT)]) (.slice none 0 0, 0) (by omega) (Fr.Sub.cons rfl (Fr.Sub.cons rfl (Fr.Sub.nil _))) (Fr.Sub.cons rfl (Fr.Sub.cons rfl (Fr.Sub.cons rfl (Fr.Sub.nil _)))) (HSub.pick 0 rfl (HSub.pick 0 rfl (HSub.nil _))) ?_
  rintro ⟨v, t⟩ ht
  have ht : t ≤ g.length := ht
  refine RunC.seq ?_
  refine RunC.region ?_
  refine RunL.still rfl rfl rfl (Still.lss rfl rfl rfl) ?_
  refine RunL.nil ?_
  refine Ends.then ?_
  refine RunC.seq ?_
  refine RunC.cond rfl (fun h13 => ?_) (fun h13 => ?_)
  · have h13 := of_decide_eq_true h13
    have htN : t < g.length := by omega
    obtain ⟨x, hx⟩ := get_of_lt (l := g) (i := t) htN
    refine RunC.skip ?_
    refine Ends.then ?_
    refine RunC.seq ?_
    refine RunC.block ?_
    refine RunC.seq ?_
    refine RunC.region ?_
    refine RunL.still rfl rfl rfl (Still.indexSliceN rfl rfl rfl Tryz.underlying22 Tryz.sizeOf35 (hg.base (by omega)) (by omega)) ?_
    refine RunL.still rfl rfl rfl (Still.loads rfl rfl Tryz.isAgg35 Tryz.sizeOf35 (vs := [iv x.f0.tet, iv x.f0.p.a0, iv x.f0.p.a1, iv x.f0.p.a2, iv x.f0.p.a3, iv x.f1.tet, iv x.f1.p.a0, iv x.f1.p.a1, iv x.f1.p.a2, iv x.f1.p.a3, iv x.f2.tet, iv x.f2.p.a0, iv x.f2.p.a1, iv x.f2.p.a2, iv x.f2.p.a3, iv x.f3.tet, iv x.f3.p.a0, iv x.f3.p.a1, iv x.f3.p.a2, iv x.f3.p.a3]) rfl (fun _ hs => (hg.sym hs).cell t x hx)) ?_
    refine RunL.grows rfl rfl rfl (Grows.alloc rfl Tryz.zeroValue35) (fun b7 _ => ?_)
    refine RunL.does0 rfl rfl (Does.store rfl rfl rfl (i := 0) rfl Tryz.sizeOf35 rfl (rfl) rfl) (fun _ _ => ?_)
    refine RunL.conv (fun _ hs => hs.re 0 rfl (show _ = HL.obj b7 (.cells (ttA x) 35 (0, 0)) from congrArg (fun z => HL.obj b7 (.cells z 35 (0, 0))) (putT x))) ?_
    refine RunL.nil ?_
    refine Ends.then ?_
    refine RunC.seq ?_
    refine RunC.seq ?_
    refine RunC.region ?_
    refine RunL.still rfl rfl rfl (Still.move rfl rfl) ?_
    refine RunL.nil ?_
    refine Ends.then ?_
    refine RunC.block ?_
    refine RunC.loop2 (γ := Nat) (keep := [(1, _), (5, _), (7, _), (10, _), (11, _), (12, _)]) (hkeep := [_, _]) (fun f => f ≤ 4) (fun f => 4 - f) (fun f => [(16, iv f)]) (fun f => [HL.obj b7 (.cells (ttA (chTo (shF k) x f)) 35 (0, 0))]) 0 (by omega) (Fr.Sub.cons rfl (Fr.Sub.nil _)) (Fr.Sub.cons rfl (Fr.Sub.cons rfl (Fr.Sub.cons rfl (Fr.Sub.cons rfl (Fr.Sub.cons rfl (Fr.Sub.cons rfl (Fr.Sub.nil _))))))) (HSub.pick 0 rfl (HSub.pick 0 rfl (HSub.pick 0 rfl (HSub.nil _)))) ?_
    rintro f hf
    refine RunC.seq ?_
    refine RunC.region ?_
    refine RunL.still rfl rfl rfl (Still.lss rfl rfl rfl) ?_
    refine RunL.nil ?_
    refine Ends.then ?_
    refine RunC.seq ?_
    refine RunC.cond rfl (fun h17 => ?_) (fun h17 => ?_)
    · have h17 := of_decide_eq_true h17
      have hf4 : f < 4 := by omega
      have hxf := okG_tet hok htN hf4
      rw [fAt_of hx] at hxf
      refine RunC.skip ?_
      refine Ends.then ?_
      refine RunC.seq ?_
      refine RunC.block ?_
      refine RunC.seq ?_
      refine RunC.region ?_
      refine RunL.still rfl rfl rfl (Still.move rfl rfl) ?_
      refine RunL.still rfl rfl rfl (Still.assign rfl rfl) ?_
      refine RunL.nil ?_
      refine Ends.then ?_
      refine RunC.seq ?_
      refine RunC.region ?_
      refine RunL.still rfl rfl rfl (Still.move rfl rfl) ?_
      refine RunL.still rfl rfl rfl (Still.indexArrNL rfl rfl rfl Tryz.underlying35 Tryz.sizeOf34 (by omega)) ?_
      refine RunL.still rfl rfl rfl (Still.fieldAddrL rfl rfl Tryz.underlying34 rfl Tryz.sizeOf3 rfl) ?_
      refine RunL.still rfl rfl rfl (Still.load (v := iv (x.at f).tet) rfl rfl Tryz.isAgg3 (fun _ hs => cell_nth (hs.at (i := 0) rfl) (nth_chTo _ _ hf4))) ?_
      refine RunL.still rfl rfl rfl (Still.geq rfl rfl rfl) ?_
      refine RunL.nil ?_
      refine Ends.then ?_
      refine RunC.cond rfl (fun h23 => ?_) (fun h23 => ?_)
      · have h23 := of_decide_eq_true h23
        refine RunC.region ?_
        refine RunL.still rfl rfl rfl (Still.move rfl rfl) ?_
        refine RunL.still rfl rfl rfl (Still.indexArrNL rfl rfl rfl Tryz.underlying35 Tryz.sizeOf34 (by omega)) ?_
        refine RunL.still rfl rfl rfl (Still.fieldAddrL rfl rfl Tryz.underlying34 rfl Tryz.sizeOf3 rfl) ?_
        refine RunL.still rfl rfl rfl (Still.load (v := iv (x.at f).tet) rfl rfl Tryz.isAgg3 (fun _ hs => cell_nth (hs.at (i := 0) rfl) (nth_chTo _ _ hf4))) ?_
        refine RunL.still rfl rfl rfl (Still.move rfl rfl) ?_
        refine RunL.still rfl rfl rfl (Still.add rfl rfl rfl (fits64 (by omega) (by omega))) ?_
        refine RunL.still rfl rfl rfl (Still.indexArrNL rfl rfl rfl Tryz.underlying35 Tryz.sizeOf34 (by omega)) ?_
        refine RunL.still rfl rfl rfl (Still.fieldAddrL rfl rfl Tryz.underlying34 rfl Tryz.sizeOf3 rfl) ?_
        refine RunL.does0 rfl rfl (Does.store1 rfl rfl rfl (i := 0) rfl Tryz.sizeOf3 rfl (Nat.ble_eq_true_of_le (show 0 + f * 5 + 0 + 1 ≤ 20 by omega))) (fun _ _ => ?_)
        refine RunL.conv (fun _ hs => hs.re 0 rfl (show _ = HL.obj b7 (.cells (ttA (chTo (shF k) x (f + 1))) 35 (0, 0)) from congrArg (fun z => HL.obj b7 (.cells z 35 (0, 0))) (chTo_tet hf4 (by rw [shF, if_pos h23])))) ?_
        refine RunL.nil ?_
        refine Ends.block ?_
        refine Ends.then ?_
        refine RunC.region ?_
        refine RunL.still rfl rfl rfl (Still.add rfl rfl rfl (fits64 (by omega) (by omega))) ?_
        refine RunL.still rfl rfl rfl (Still.move rfl rfl) ?_
        refine RunL.nil ?_
        refine Ends.again (f + 1) ?_ ?_ (Fr.Sub.app ?_ ?_) ?_
        · show _; omega
        · show _ < _; omega
        · exact Fr.Sub.cons rfl (Fr.Sub.nil _)
        · exact Fr.Sub.cons rfl (Fr.Sub.cons rfl (Fr.Sub.cons rfl (Fr.Sub.cons rfl (Fr.Sub.cons rfl (Fr.Sub.cons rfl (Fr.Sub.nil _))))))
        · exact HSub.pick 0 rfl (HSub.pick 0 rfl (HSub.pick 0 rfl (HSub.nil _)))
      · have h23 := of_decide_eq_false h23
        refine RunC.skip ?_
        refine Ends.block ?_
        refine Ends.then ?_
        refine RunC.region ?_
        refine RunL.still rfl rfl rfl (Still.add rfl rfl rfl (fits64 (by omega) (by omega))) ?_
        refine RunL.still rfl rfl rfl (Still.move rfl rfl) ?_
        refine RunL.nil ?_
        refine Ends.again (f + 1) ?_ ?_ (Fr.Sub.app ?_ ?_) ?_
        · show _; omega
        · show _ < _; omega
        · exact Fr.Sub.cons rfl (Fr.Sub.nil _)
        · exact Fr.Sub.cons rfl (Fr.Sub.cons rfl (Fr.Sub.cons rfl (Fr.Sub.cons rfl (Fr.Sub.cons rfl (Fr.Sub.cons rfl (Fr.Sub.nil _))))))
        · exact HSub.pick 0 (by rw [chTo_keep hf4 (by rw [shF, if_neg h23])]; rfl) (HSub.pick 0 rfl (HSub.pick 0 rfl (HSub.nil _)))
    · have h17 := of_decide_eq_false h17
      obtain rfl : f = 4 := by omega
      refine RunC.exit ?_
      refine Ends.then_exit ?_
      refine Ends.then_exit ?_
      refine Ends.block_exit ?_
      refine Ends.then ?_
      refine RunC.conv (fun _ hs => hs.re 0 rfl (show _ = HL.obj b7 (.cells (ttV (mapF x (shF k))).cells 35 (0, 0)) by rw [chTo_four]; rfl)) ?_
      refine RunC.region ?_
      refine RunL.still rfl rfl rfl (Still.move rfl rfl) ?_
      refine RunL.still rfl rfl rfl (Still.loads rfl rfl Tryz.isAgg35 Tryz.sizeOf35 (vs := [_, _, _, _, _, _, _, _, _, _, _, _, _, _, _, _, _, _, _, _]) rfl (fun _ hs => cells_nth (hs.at (i := 0) rfl) ⟨rfl, ⟨rfl, ⟨rfl, ⟨rfl, ⟨rfl, ⟨rfl, ⟨rfl, ⟨rfl, ⟨rfl, ⟨rfl, ⟨rfl, ⟨rfl, ⟨rfl, ⟨rfl, ⟨rfl, ⟨rfl, ⟨rfl, ⟨rfl, ⟨rfl, ⟨rfl, trivial⟩⟩⟩⟩⟩⟩⟩⟩⟩⟩⟩⟩⟩⟩⟩⟩⟩⟩⟩⟩)) ?_
      refine RunL.grows rfl rfl rfl (Grows.slice1 rfl rfl Tryz.underlying22 Tryz.sizeOf35 rfl Tryz.zeroValue35 (by decide)) (fun b35 _ => ?_)
      refine RunL.does rfl rfl rfl (Does.appendTo (n' := (t + 1)) (xs' := ((((g.take t).map (fun t => mapF t (shF k))) ++ [mapF x (shF k)]).flatMap encT)) (news := [_, _, _, _, _, _, _, _, _, _, _, _, _, _, _, _, _, _, _, _]) rfl rfl rfl rfl (i := 2) rfl Tryz.underlying22 (by kernel_rfl : (_ : Option _) = some (some (.agg #[.int .i64 0, .int .i64 0, .int .i64 0, .int .i64 0, .int .i64 0, .int .i64 0, .int .i64 0, .int .i64 0, .int .i64 0, .int .i64 0, .int .i64 0, .int .i64 0, .int .i64 0, .int .i64 0, .int .i64 0, .int .i64 0, .int .i64 0, .int .i64 0, .int .i64 0, .int .i64 0]), 20, 160)) rfl rfl (fun _ hs => cells_nth (hs.at (i := 0) rfl) ⟨rfl, ⟨rfl, ⟨rfl, ⟨rfl, ⟨rfl, ⟨rfl, ⟨rfl, ⟨rfl, ⟨rfl, ⟨rfl, ⟨rfl, ⟨rfl, ⟨rfl, ⟨rfl, ⟨rfl, ⟨rfl, ⟨rfl, ⟨rfl, ⟨rfl, ⟨rfl, trivial⟩⟩⟩⟩⟩⟩⟩⟩⟩⟩⟩⟩⟩⟩⟩⟩⟩⟩⟩⟩) rfl rfl (by omega) (by omega) (rfl) (flatT_snoc _ _)) (fun v36 hv36 => ?_)
      refine RunL.still rfl rfl rfl (Still.assign rfl rfl) ?_
      refine RunL.nil ?_
      refine Ends.block ?_
      refine Ends.then ?_
      refine RunC.region ?_
      refine RunL.still rfl rfl rfl (Still.add rfl rfl rfl (fits64 (by omega) (by omega))) ?_
      refine RunL.still rfl rfl rfl (Still.move rfl rfl) ?_
      refine RunL.nil ?_
      refine Ends.again (v36, t + 1) ?_ ?_ (Fr.Sub.app ?_ ?_) ?_
      · show t + 1 ≤ _; omega
      · show _ - (t + 1) < _ - t; omega
      · exact Fr.Sub.cons rfl (Fr.Sub.cons rfl (Fr.Sub.nil _))
      · exact Fr.Sub.cons rfl (Fr.Sub.cons rfl (Fr.Sub.cons rfl (Fr.Sub.nil _)))
      · exact HSub.pick 2 (by rw [List.take_add_one, hx]; simp only [Option.toList_some, List.map_append, List.map_cons, List.map_nil]; rfl) (HSub.pick 2 rfl (HSub.nil _))
  · have h13 := of_decide_eq_false h13
    obtain rfl : t = g.length := by omega
    refine RunC.exit ?_
    refine Ends.then_exit ?_
    refine Ends.then_exit ?_
    refine Ends.block_exit ?_
    refine Ends.then ?_
    refine RunC.seq ?_
    refine RunC.region ?_
    refine RunL.still rfl rfl rfl (Still.move rfl rfl) ?_
    refine RunL.still rfl rfl rfl (Still.assign rfl rfl) ?_
    refine RunL.nil ?_
    refine Ends.then ?_
    refine RunC.ret ?_
    refine Ends.leave (.inl rfl) (fun _ _ ok => results1 Tryz.results55 (Holds.tmp rfl) ok) (fun w1 hs => ?_)
    exact Ret.intro v (own_shape (hs.own (i := 0) rfl)) rfl (HSub.pick 0 (by show some (HL.own 35 20 v g.length (((g.take g.length).map _).flatMap encT)) = _; rw [List.take_length]) (HSub.nil _)) hs

theorem uniG_len (a b : Glu) : (uniG a b).length = a.length + b.length := by simp [uniG]

theorem gl_Union_bad (ba : Option Addr) (A : Addr) (ca : Nat) (a : Glu) (bb : Option Addr) (B : Addr) (cb : Nat) (b : Glu) (w : World) (hga : GluAt w ba A a) (hgb : GluAt w bb B b) (hbad : ¬ (okG a = true ∧ okG b = true)) : Gives Tryz.prog 22 #[gluV ba ca a, gluV bb cb b] w Nil (fun _ : Unit => True) (fun _ => .tuple #[.agg #[.slice none 0 0], iv 7]) (fun _ => []) := by
  refine fn_of_run (S := Nil) (args := [gluV ba ca a, gluV bb cb b]) (n := 36) (L := []) Tryz.func22 rfl Tryz.ntmps22 (Nat.le_of_ble_eq_true rfl) (Sym.nil _ _) ?_
  change RunC _ _ _ [(0, _), (1, _)] _
  refine RunC.seq ?_
  refine RunC.region ?_
  refine RunL.grows rfl rfl rfl (Grows.box rfl rfl) (fun b2 _ => ?_)
  refine RunL.grows rfl rfl rfl (Grows.box rfl rfl) (fun b3 _ => ?_)
  refine RunL.grows rfl rfl rfl (Grows.alloc rfl Tryz.zeroValue24) (fun b4 _ => ?_)
  refine RunL.still rfl rfl rfl (Still.assign rfl rfl) ?_
  refine RunL.nil ?_
  refine Ends.then ?_
  refine RunC.seq ?_
  refine RunC.block ?_
  refine RunC.seq ?_
  refine RunC.region ?_
  refine RunL.still rfl rfl rfl (Still.loads rfl rfl Tryz.isAgg24 Tryz.sizeOf24 (vs := [_]) rfl (fun _ hs => cells_nth (hs.at (i := 2) rfl) ⟨rfl, trivial⟩)) ?_
  refine RunL.grows rfl rfl rfl (Grows.call (vs := #[_]) rfl rfl Tryz.call14 (fun w hs => gl_Check ba A ca a w (hga.sym hs))) (fun _ _ => ?_)
  refine RunL.still rfl rfl rfl (Still.neq rfl rfl rfl) ?_
  refine RunL.still rfl rfl rfl (Still.move rfl rfl) ?_
  refine RunL.split (t := 10) rfl (fun h10 => ?_) (fun h10 => ?_)
  · skip
    refine RunL.off rfl rfl rfl ?_
    refine RunL.off rfl rfl rfl ?_
    refine RunL.off rfl rfl rfl ?_
    refine RunL.still rfl rfl rfl (Still.pickT rfl rfl rfl) ?_
    refine RunL.still rfl rfl rfl (Still.assign rfl rfl) ?_
    refine RunL.nil ?_
    refine Ends.then ?_
    refine RunC.cond_true rfl ?_
    refine RunC.seq ?_
    refine RunC.region ?_
    refine RunL.still rfl rfl rfl (Still.build_0 (.agg #[.slice none 0 0]) rfl (fun _ => by kernel_rfl)) ?_
    refine RunL.does0 rfl rfl (Does.store rfl rfl rfl (i := 0) rfl Tryz.sizeOf24 rfl (rfl) rfl) (fun _ _ => ?_)
    refine RunL.still rfl rfl rfl (Still.assign rfl rfl) ?_
    refine RunL.nil ?_
    refine Ends.then ?_
    refine RunC.ret ?_
    refine Ends.block_ret ?_
    refine Ends.then_ret ?_
    refine Ends.leave (.inl rfl) (fun _ _ ok => results2 Tryz.results22 (Holds.cell rfl (fun _ hs => load_cells (vs := [_]) Tryz.isAgg24 Tryz.sizeOf24 rfl (cells_nth (hs.at (i := 0) rfl) ⟨rfl, trivial⟩))) (Holds.tmp rfl) ok) (fun w1 hs => ?_)
    exact Ret.intro () trivial rfl (HSub.nil _) hs
  · have h10 := of_decide_eq_false h10
    have ha : okG a = true := by by_cases k : okG a = true; exact k; exact absurd (chkG_bad (by simpa using k)) (by rw [Decidable.not_not.1 h10]; decide)
    refine RunL.still rfl rfl rfl (Still.loads rfl rfl Tryz.isAgg24 Tryz.sizeOf24 (vs := [_]) rfl (fun _ hs => cells_nth (hs.at (i := 1) rfl) ⟨rfl, trivial⟩)) ?_
    refine RunL.grows rfl rfl rfl (Grows.call (vs := #[_]) rfl rfl Tryz.call14 (fun w hs => gl_Check bb B cb b w (hgb.sym hs))) (fun _ _ => ?_)
    refine RunL.still rfl rfl rfl (Still.neq rfl rfl rfl) ?_
    refine RunL.still rfl rfl rfl (Still.pickF rfl rfl rfl) ?_
    refine RunL.still rfl rfl rfl (Still.assign rfl rfl) ?_
    refine RunL.nil ?_
    refine Ends.then ?_
    refine RunC.cond rfl (fun h6 => ?_) (fun h6 => ?_)
    · skip
      refine RunC.seq ?_
      refine RunC.region ?_
      refine RunL.still rfl rfl rfl (Still.build_0 (.agg #[.slice none 0 0]) rfl (fun _ => by kernel_rfl)) ?_
      refine RunL.does0 rfl rfl (Does.store rfl rfl rfl (i := 0) rfl Tryz.sizeOf24 rfl (rfl) rfl) (fun _ _ => ?_)
      refine RunL.still rfl rfl rfl (Still.assign rfl rfl) ?_
      refine RunL.nil ?_
      refine Ends.then ?_
      refine RunC.ret ?_
      refine Ends.block_ret ?_
      refine Ends.then_ret ?_
      refine Ends.leave (.inl rfl) (fun _ _ ok => results2 Tryz.results22 (Holds.cell rfl (fun _ hs => load_cells (vs := [_]) Tryz.isAgg24 Tryz.sizeOf24 rfl (cells_nth (hs.at (i := 0) rfl) ⟨rfl, trivial⟩))) (Holds.tmp rfl) ok) (fun w2 hs => ?_)
      exact Ret.intro () trivial rfl (HSub.nil _) hs
    · have h6 := of_decide_eq_false h6
      have hb : okG b = true := by by_cases k : okG b = true; exact k; exact absurd (chkG_bad (by simpa using k)) (by rw [Decidable.not_not.1 h6]; decide)
      exact absurd ⟨ha, hb⟩ hbad

theorem gl_Union_ok (ba : Option Addr) (A : Addr) (ca : Nat) (a : Glu) (bb : Option Addr) (B : Addr) (cb : Nat) (b : Glu) (w : World) (hga : GluAt w ba A a) (hgb : GluAt w bb B b) (ha : okG a = true) (hb : okG b = true) (hl : a.length + b.length ≤ 1000) : Gives Tryz.prog 22 #[gluV ba ca a, gluV bb cb b] w Nil (fun q : Option Addr × Nat => OKB q (uniG a b).length) (fun q => .tuple #[gluV q.1 q.2 (uniG a b), iv 0]) (fun q => [ownG q (uniG a b)]) := by
  have a1000 := okG_len ha
  have b1000 := okG_len hb
  refine fn_of_run (S := Nil) (args := [gluV ba ca a, gluV bb cb b]) (n := 36) (L := []) Tryz.func22 rfl Tryz.ntmps22 (Nat.le_of_ble_eq_true rfl) (Sym.nil _ _) ?_
  change RunC _ _ _ [(0, _), (1, _)] _
  refine RunC.seq ?_
  refine RunC.region ?_
  refine RunL.grows rfl rfl rfl (Grows.box rfl rfl) (fun b2 _ => ?_)
  refine RunL.grows rfl rfl rfl (Grows.box rfl rfl) (fun b3 _ => ?_)
  refine RunL.grows rfl rfl rfl (Grows.alloc rfl Tryz.zeroValue24) (fun b4 _ => ?_)
  refine RunL.still rfl rfl rfl (Still.assign rfl rfl) ?_
  refine RunL.nil ?_
  refine Ends.then ?_
  refine RunC.seq ?_
  refine RunC.block ?_
  refine RunC.seq ?_
  refine RunC.region ?_
  refine RunL.still rfl rfl rfl (Still.loads rfl rfl Tryz.isAgg24 Tryz.sizeOf24 (vs := [_]) rfl (fun _ hs => cells_nth (hs.at (i := 2) rfl) ⟨rfl, trivial⟩)) ?_
  refine RunL.grows rfl rfl rfl (Grows.call (vs := #[_]) rfl rfl Tryz.call14 (fun w hs => gl_Check ba A ca a w (hga.sym hs))) (fun _ _ => ?_)
  refine RunL.still rfl rfl rfl (Still.neq rfl rfl rfl) ?_
  refine RunL.still rfl rfl rfl (Still.move rfl rfl) ?_
  refine RunL.split (t := 10) rfl (fun h10 => ?_) (fun h10 => ?_)
  · have h10 := of_decide_eq_true h10
    exact absurd (chkG_ok ha) h10
  · skip
    refine RunL.still rfl rfl rfl (Still.loads rfl rfl Tryz.isAgg24 Tryz.sizeOf24 (vs := [_]) rfl (fun _ hs => cells_nth (hs.at (i := 1) rfl) ⟨rfl, trivial⟩)) ?_
    refine RunL.grows rfl rfl rfl (Grows.call (vs := #[_]) rfl rfl Tryz.call14 (fun w hs => gl_Check bb B cb b w (hgb.sym hs))) (fun _ _ => ?_)
    refine RunL.still rfl rfl rfl (Still.neq rfl rfl rfl) ?_
    refine RunL.still rfl rfl rfl (Still.pickF rfl rfl rfl) ?_
    refine RunL.still rfl rfl rfl (Still.assign rfl rfl) ?_
    refine RunL.nil ?_
    refine Ends.then ?_
    refine RunC.cond rfl (fun h6 => ?_) (fun h6 => ?_)
    · have h6 := of_decide_eq_true h6
      exact absurd (chkG_ok hb) h6
    · skip
      refine RunC.seq ?_
      refine RunC.region ?_
      refine RunL.still rfl rfl rfl (Still.fieldAddrL (off := 0) (off' := 0) rfl rfl Tryz.underlying24 rfl Tryz.sizeOf22 rfl) ?_
      refine RunL.still rfl rfl rfl (Still.load rfl rfl Tryz.isAgg22 (fun _ hs => cell_nth (hs.at (i := 2) rfl) rfl)) ?_
      refine RunL.still rfl rfl rfl (Still.lenSlice rfl rfl Tryz.underlying22) ?_
      refine RunL.still rfl rfl rfl (Still.fieldAddrL (off := 0) (off' := 0) rfl rfl Tryz.underlying24 rfl Tryz.sizeOf22 rfl) ?_
      refine RunL.still rfl rfl rfl (Still.load rfl rfl Tryz.isAgg22 (fun _ hs => cell_nth (hs.at (i := 1) rfl) rfl)) ?_
      refine RunL.still rfl rfl rfl (Still.lenSlice rfl rfl Tryz.underlying22) ?_
      refine RunL.still rfl rfl rfl (Still.add rfl rfl rfl (fits64 (by omega) (by omega))) ?_
      refine RunL.still rfl rfl rfl (Still.gtr rfl rfl rfl) ?_
      refine RunL.still rfl rfl rfl (Still.assign rfl rfl) ?_
      refine RunL.nil ?_
      refine Ends.then ?_
      refine RunC.cond rfl (fun h16 => ?_) (fun h16 => ?_)
      · have h16 := of_decide_eq_true h16
        omega
      · have h16 := of_decide_eq_false h16
        refine RunC.skip ?_
        refine Ends.block ?_
        refine Ends.then ?_
        refine RunC.seq ?_
        refine RunC.draw 7 (.still 0 (.still 1 (.still 3 (.still 4 (.still 5 (.still 6 (.one 2 .done))))))) (by kernel_rfl) (by kernel_rfl) ?_
        refine RunG.still rfl rfl rfl rfl (Still.fieldAddrL (off := 0) (off' := 0) rfl rfl Tryz.underlying24 rfl Tryz.sizeOf22 rfl) ?_
        refine RunG.still rfl rfl rfl rfl (Still.load rfl rfl Tryz.isAgg22 (fun _ hs => cell_nth (hs.at (i := 2) rfl) rfl)) ?_
        refine RunG.still rfl rfl rfl rfl (Still.loads rfl rfl Tryz.isAgg24 Tryz.sizeOf24 (vs := [_]) rfl (fun _ hs => cells_nth (hs.at (i := 1) rfl) ⟨rfl, trivial⟩)) ?_
        refine RunG.still rfl rfl rfl rfl (Still.fieldAddrL (off := 0) (off' := 0) rfl rfl Tryz.underlying24 rfl Tryz.sizeOf22 rfl) ?_
        refine RunG.still rfl rfl rfl rfl (Still.load rfl rfl Tryz.isAgg22 (fun _ hs => cell_nth (hs.at (i := 2) rfl) rfl)) ?_
        refine RunG.still rfl rfl rfl rfl (Still.lenSlice rfl rfl Tryz.underlying22) ?_
        refine RunG.grows rfl rfl rfl rfl (Grows.call (vs := #[_]) rfl rfl Tryz.call54 (fun w hs => gl_Clone ba A ca a w (hga.sym hs) (by omega))) (fun v28 hv28 => ?_)
        refine RunG.done ?_
        show RunL _ _ _ [_, _, _, _, _] _ _
        refine RunL.grows rfl rfl rfl (Grows.call (vs := #[_, _]) rfl rfl Tryz.call55 (fun w hs => gl_shifted bb B cb b a.length w (hgb.sym hs) (by omega) hb)) (fun v33 hv33 => ?_)
        obtain ⟨sb, sc, hvs, hsb⟩ := hv33
        subst hvs
        refine RunL.does rfl rfl rfl (Does.appendAny (n' := (a.length + b.length)) (xs' := ((uniG a b).flatMap encT)) (news := ((b.map fun t => mapF t (shF (a.length : Int))).flatMap encT)) rfl rfl rfl rfl (hsb) (i := 1) rfl Tryz.underlying22 (by kernel_rfl : Tryz.prog.info? 35 = some Tryz.t35) (by kernel_rfl : (_ : Option _) = some (some (.agg #[.int .i64 0, .int .i64 0, .int .i64 0, .int .i64 0, .int .i64 0, .int .i64 0, .int .i64 0, .int .i64 0, .int .i64 0, .int .i64 0, .int .i64 0, .int .i64 0, .int .i64 0, .int .i64 0, .int .i64 0, .int .i64 0, .int .i64 0, .int .i64 0, .int .i64 0, .int .i64 0]), 20, 160)) rfl rfl (fun w hs => own_all (hs.own (i := 0) rfl)) (by rw [flat_len encT_len, List.length_map]) (encT_one _) (by omega) (by omega) (rfl) ((by rw [uniG, List.flatMap_append]))) (fun v34 hv34 => ?_)
        refine RunL.know (fun _ hs => own_shape (hs.own (i := 1) rfl)) (fun hsh2 => ?_)
        obtain ⟨vb, vc, hvv, hvb⟩ := hsh2
        subst hvv
        refine RunL.still rfl rfl rfl (Still.build_1 (fun x0_0 => .agg #[x0_0]) rfl rfl (fun _ => by kernel_rfl)) ?_
        refine RunL.does0 rfl rfl (Does.store rfl rfl rfl (i := 2) rfl Tryz.sizeOf24 rfl (rfl) rfl) (fun _ _ => ?_)
        refine RunL.still rfl rfl rfl (Still.assign rfl rfl) ?_
        refine RunL.nil ?_
        refine Ends.then ?_
        refine RunC.ret ?_
        skip
        refine Ends.leave (.inl rfl) (fun _ _ ok => results2 Tryz.results22 (Holds.cell rfl (fun _ hs => load_cells (vs := [_]) Tryz.isAgg24 Tryz.sizeOf24 rfl (cells_nth (hs.at (i := 2) rfl) ⟨rfl, trivial⟩))) (Holds.tmp rfl) ok) (fun w1 hs => ?_)
        exact Ret.intro (vb, vc) (by rw [OKB, uniG_len]; exact hvb) (by show _ = Value.tuple #[gluV vb vc (uniG a b), iv 0]; simp only [gluV, uniG_len]; try rfl) (HSub.pick 1 (by rw [ownG, uniG_len]; rfl) (HSub.nil _)) hs

end Go.Proofs
/- Twofold covers and doubles of gluings: contracts of both texts. -/
namespace Go.Proofs
open Go Go.V
set_option maxRecDepth 20000
theorem tw_lo {g : Glu} {t f : Nat} (hok : okG g = true) (ht : t < g.length) (hf : f < 4) (h : 0 ≤ (fAt g t f).tet ∧ sgnP (fAt g t f).p = 1) : twH g.length t f (fAt (uniG g g) t f) = ⟨(fAt g t f).tet + g.length, (fAt g t f).p⟩ := by
  have := okG_tet hok ht hf
  rw [uniG_lo ht, twH, if_pos h, Int.emod_eq_of_lt (by omega) (by omega)]
theorem tw_hi {g : Glu} {t f : Nat} (hok : okG g = true) (ht : t < g.length) (hf : f < 4) (h : 0 ≤ (fAt g t f).tet ∧ sgnP (fAt g t f).p = 1) : twH g.length (t + g.length) f (fAt (uniG g g) (t + g.length) f) = ⟨(fAt g t f).tet, (fAt g t f).p⟩ := by
  have := okG_tet hok ht hf
  have e : shF (g.length : Int) (fAt g t f) = ⟨(fAt g t f).tet + g.length, (fAt g t f).p⟩ := by rw [shF, if_pos h.1]
  rw [uniG_hi ht hf, e, twH, if_pos ⟨by show 0 ≤ _ + _; omega, h.2⟩]
  congr 1
  show ((fAt g t f).tet + g.length + g.length) % (2 * g.length) = _
  rw [show (fAt g t f).tet + (g.length : Int) + g.length = (fAt g t f).tet + 2 * g.length by omega, Int.add_emod_right, Int.emod_eq_of_lt (by omega) (by omega)]
theorem tw_no {g : Glu} {t f : Nat} (ht : t < g.length) (hf : f < 4) (h : ¬ (0 ≤ (fAt g t f).tet ∧ sgnP (fAt g t f).p = 1)) : twH g.length t f (fAt (uniG g g) t f) = fAt (uniG g g) t f ∧ twH g.length (t + g.length) f (fAt (uniG g g) (t + g.length) f) = fAt (uniG g g) (t + g.length) f := by
  constructor
  · rw [uniG_lo ht, twH, if_neg h]
  · rw [uniG_hi ht hf, shF]
    by_cases h0 : 0 ≤ (fAt g t f).tet
    · rw [if_pos h0, twH, if_neg (fun k => h ⟨h0, k.2⟩)]
    · rw [if_neg h0, twH, if_neg h]
theorem db_lo {g : Glu} {t f : Nat} (ht : t < g.length) (h : (fAt g t f).tet < 0) : dbH g.length t f (fAt (uniG g g) t f) = ⟨(t : Int) + g.length, idP⟩ := by
  rw [uniG_lo ht, dbH, if_pos h, Int.emod_eq_of_lt (by omega) (by omega)]
theorem db_hi {g : Glu} {t f : Nat} (ht : t < g.length) (hf : f < 4) (h : (fAt g t f).tet < 0) : dbH g.length (t + g.length) f (fAt (uniG g g) (t + g.length) f) = ⟨(t : Int), idP⟩ := by
  have e : shF (g.length : Int) (fAt g t f) = fAt g t f := by rw [shF, if_neg (by omega)]
  rw [uniG_hi ht hf, e, dbH, if_pos h]
  congr 1
  rw [show ((t + g.length : Nat) : Int) + g.length = t + 2 * g.length by omega, Int.add_emod_right, Int.emod_eq_of_lt (by omega) (by omega)]
theorem db_no {g : Glu} {t f : Nat} (ht : t < g.length) (hf : f < 4) (h : ¬ (fAt g t f).tet < 0) : dbH g.length t f (fAt (uniG g g) t f) = fAt (uniG g g) t f ∧ dbH g.length (t + g.length) f (fAt (uniG g g) (t + g.length) f) = fAt (uniG g g) (t + g.length) f := by
  constructor
  · rw [uniG_lo ht, dbH, if_neg h]
  · rw [uniG_hi ht hf, shF, if_pos (by omega), dbH, if_neg (by show ¬ _ + _ < _; omega)]

theorem gl_Twofold (base : Option Addr) (A : Addr) (cap : Nat) (g : Glu) (w : World) (hg : GluAt w base A g) (hok : okG g = true) (hn : 2 * g.length ≤ 1000) : Gives Tryz.prog 12 #[gluV base cap g] w Nil (fun q : Option Addr × Nat => OKB q (twoG g).length) (fun q => .tuple #[gluV q.1 q.2 (twoG g), iv 0]) (fun q => [ownG q (twoG g)]) := by
  have hlen := hg.len
  have hul : (uniG g g).length = 2 * g.length := by rw [uniG_len]; omega
  refine fn_of_runM (S := Nil) (args := [gluV base cap g]) (n := 62) (L := []) Tryz.func12 rfl Tryz.ntmps12 (Nat.le_of_ble_eq_true rfl) (Sym.nil _ _) ?_
  change RunC _ _ _ [(0, _)] _
  refine RunC.conv (fun _ hs => hs.marks_nil) ?_
  refine RunC.seq ?_
  refine RunC.region ?_
  refine RunL.grows rfl rfl rfl (Grows.box rfl rfl) (fun b1 _ => ?_)
  refine RunL.grows rfl rfl rfl (Grows.alloc rfl Tryz.zeroValue24) (fun b2 _ => ?_)
  refine RunL.still rfl rfl rfl (Still.assign rfl rfl) ?_
  refine RunL.nil ?_
  refine Ends.then ?_
  refine RunC.seq ?_
  refine RunC.region ?_
  refine RunL.still rfl rfl rfl (Still.loads rfl rfl Tryz.isAgg24 Tryz.sizeOf24 (vs := [_]) rfl (fun _ hs => cells_nth (hs.at (i := 1) rfl) ⟨rfl, trivial⟩)) ?_
  refine RunL.still rfl rfl rfl (Still.loads rfl rfl Tryz.isAgg24 Tryz.sizeOf24 (vs := [_]) rfl (fun _ hs => cells_nth (hs.at (i := 1) rfl) ⟨rfl, trivial⟩)) ?_
  refine RunL.grows rfl rfl rfl (Grows.call (vs := #[_, _]) rfl rfl Tryz.call22 (fun w hs => gl_Union_ok base A cap g base A cap g w (hg.sym hs) (hg.sym hs) hok hok (by omega))) (fun q hq => ?_)
  have hq : OKB q (uniG g g).length := hq
  have hq2 : OKB q (twoG g).length := by have := hq; rw [hul] at this; rw [twoG_len]; exact this
  refine RunL.conv (fun _ hs => hs.re 0 rfl (show _ = HL.own 35 20 (.slice q.1 (2 * g.length) q.2) (2 * g.length) ((uniG g g).flatMap encT) by rw [ownG, hul])) ?_
  refine RunL.still rfl rfl rfl (Still.move rfl rfl) ?_
  refine RunL.still rfl rfl rfl (Still.extractN rfl rfl rfl) ?_
  refine RunL.still rfl rfl rfl (Still.extractN rfl rfl rfl) ?_
  refine RunL.grows rfl rfl rfl (Grows.alloc rfl Tryz.zeroValue24) (fun b4 _ => ?_)
  refine RunL.does0 rfl rfl (Does.store rfl rfl rfl (i := 0) rfl Tryz.sizeOf24 rfl (rfl) rfl) (fun _ _ => ?_)
  refine RunL.conv (fun _ hs => hs.re 0 rfl (show _ = HL.obj b4 (.cells #[.slice q.1 (2 * g.length) q.2] 24 (0, 0)) from by simp only [gluV, hul]; rfl)) ?_
  refine RunL.still rfl rfl rfl (Still.assign rfl rfl) ?_
  refine RunL.nil ?_
  refine Ends.then ?_
  refine RunC.seq ?_
  refine RunC.seq ?_
  refine RunC.region ?_
  refine RunL.still rfl rfl rfl (Still.move rfl rfl) ?_
  refine RunL.still rfl rfl rfl (Still.neq rfl rfl rfl) ?_
  refine RunL.again (t := 16) (u := .bool false) rfl (rfl) ?_
  refine RunL.nil ?_
  refine Ends.then ?_
  refine RunC.cond_false rfl ?_
  refine RunC.skip ?_
  refine Ends.then ?_
  refine RunC.seq ?_
  refine RunC.region ?_
  refine RunL.still rfl rfl rfl (Still.fieldAddrL (off := 0) (off' := 0) rfl rfl Tryz.underlying24 rfl Tryz.sizeOf22 rfl) ?_
  refine RunL.still rfl rfl rfl (Still.load rfl rfl Tryz.isAgg22 (fun _ hs => cell_nth (hs.at (i := 3) rfl) rfl)) ?_
  refine RunL.still rfl rfl rfl (Still.lenSlice rfl rfl Tryz.underlying22) ?_
  refine RunL.grows rfl rfl rfl (Grows.alloc rfl Tryz.zeroValue3) (fun b6 _ => ?_)
  refine RunL.does0 rfl rfl (Does.store1 rfl rfl rfl (i := 0) rfl Tryz.sizeOf3 (rfl) (rfl)) (fun _ _ => ?_)
  refine RunL.nil ?_
  refine Ends.then ?_
  refine RunC.seq ?_
  refine RunC.seq ?_
  refine RunC.region ?_
  refine RunL.still rfl rfl rfl (Still.loads rfl rfl Tryz.isAgg24 Tryz.sizeOf24 (vs := [_]) rfl (fun _ hs => cells_nth (hs.at (i := 4) rfl) ⟨rfl, trivial⟩)) ?_
  refine RunL.grows rfl rfl rfl (Grows.call (vs := #[_]) rfl rfl Tryz.call45 (fun w hs => gl_faces base A cap g w)) (fun gb _ => ?_)
  refine RunL.nil ?_
  refine Ends.then ?_
  refine RunC.block ?_
  refine RunC.conv (fun _ hs => Sym.all (l := [_, _, _]) (hs.sub (HSub.pick 3 rfl (HSub.pick 2 rfl (HSub.pick 1 rfl (HSub.pick 0 rfl (HSub.pick 0 rfl (HSub.pick 0 rfl (HSub.pick 0 rfl (HSub.nil _)))))))))) ?_
  refine RunC.rangeFuncJ (V := .tuple #[]) (gf := 70) (N := 4 * g.length) (lb := #[ptrV gb]) () (fun _ : Unit => none) (fun j => [.agg #[iv ((j / 4 : Nat) : Int), iv ((j % 4 : Nat) : Int)], fcV (fAt g (j / 4) (j % 4))]) (fun j s => HL.all [HL.own 35 20 (.slice q.1 (2 * g.length) q.2) (2 * g.length) ((cg2To (uniG g g) g.length (twH g.length) j).flatMap encT), HL.obj b4 (.cells #[.slice q.1 (2 * g.length) q.2] 24 (0, 0)), HL.obj b6 (.cells #[iv (g.length : Int)] 3 (0, 0))]) rfl rfl (fun _ => rfl) rfl Tryz.call70 rfl (HSub.pick 0 rfl (HSub.refl _)) ?_ ?_ ?_
  · intro l rc j s w S hO hS hj hjs ha hb
    obtain ⟨t, f, rfl, hf4⟩ : ∃ t f, j = 4 * t + f ∧ f < 4 := ⟨j / 4, j % 4, by omega, by omega⟩
    have htN : t < g.length := by omega
    have hxb := okG_tet hok htN hf4
    have e1 : (4 * t + f) / 4 = t := by omega
    have e2 : (4 * t + f) % 4 = f := by omega
    rw [e1, e2]
    refine RunC.seq ?_
    refine RunC.region ?_
    refine RunL.grows rfl rfl rfl (Grows.alloc rfl Tryz.zeroValue68) (fun b7 _ => ?_)
    refine RunL.does0 rfl rfl (Does.store rfl rfl rfl (i := 0) rfl Tryz.sizeOf68 rfl (rfl) rfl) (fun _ _ => ?_)
    refine RunL.nil ?_
    refine Ends.then ?_
    refine RunC.region ?_
    refine RunL.grows rfl rfl rfl (Grows.alloc rfl Tryz.zeroValue34) (fun b8 _ => ?_)
    refine RunL.does0 rfl rfl (Does.store rfl rfl rfl (i := 0) rfl Tryz.sizeOf34 rfl (rfl) rfl) (fun _ _ => ?_)
    refine RunL.nil ?_
    refine Ends.roundBeginJ (Fr.Sub.refl _) (HSub.pick 2 rfl (HSub.refl _)) ?_
    refine RunC.conv (fun _ hs => Sym.unall (hs.sub (HSub.pick 3 rfl (HSub.pick 0 rfl (HSub.pick 0 rfl (HSub.pick 0 rfl (HSub.nil _))))))) ?_
    refine RunC.block ?_
    refine RunC.seq ?_
    refine RunC.region ?_
    refine RunL.still rfl rfl rfl (Still.fieldAddrL (off := 0) (off' := 0) rfl rfl Tryz.underlying34 rfl Tryz.sizeOf3 rfl) ?_
    refine RunL.still rfl rfl rfl (Still.load rfl rfl Tryz.isAgg3 (fun _ hs => cell_nth (hs.at (i := 4) rfl) rfl)) ?_
    refine RunL.still rfl rfl rfl (Still.geq rfl rfl rfl) ?_
    refine RunL.still rfl rfl rfl (Still.move rfl rfl) ?_
    refine RunL.split (t := 29) rfl (fun h29 => ?_) (fun h29 => ?_)
    · have h29 := of_decide_eq_true h29
      refine RunL.still rfl rfl rfl (Still.fieldAddrL (off := 0) (off' := 1) rfl rfl Tryz.underlying34 rfl Tryz.sizeOf32 rfl) ?_
      refine RunL.still rfl rfl rfl (Still.loads rfl rfl Tryz.isAgg32 Tryz.sizeOf32 (vs := [_, _, _, _]) rfl (fun _ hs => cells_nth (hs.at (i := 4) rfl) ⟨rfl, ⟨rfl, ⟨rfl, ⟨rfl, trivial⟩⟩⟩⟩)) ?_
      refine RunL.grows rfl rfl rfl (Grows.call (vs := #[_]) rfl rfl Tryz.call46 (fun w hs => gl_sign _ w)) (fun _ _ => ?_)
      refine RunL.still rfl rfl rfl (Still.eql rfl rfl rfl) ?_
      refine RunL.still rfl rfl rfl (Still.pickT rfl rfl rfl) ?_
      refine RunL.nil ?_
      refine Ends.then ?_
      refine RunC.cond rfl (fun h34 => ?_) (fun h34 => ?_)
      · have h34 := of_decide_eq_true h34
        refine RunC.seq ?_
        refine RunC.draw 13 (.still 0 (.still 1 (.still 2 (.still 3 (.still 4 (.still 5 (.still 6 (.still 7 (.still 8 (.still 9 (.still 10 (.still 11 (.still 12 .done))))))))))))) (by kernel_rfl) (by kernel_rfl) ?_
        refine RunG.still rfl rfl rfl rfl (Still.fieldAddrL (off := 0) (off' := 0) rfl rfl Tryz.underlying24 rfl Tryz.sizeOf22 rfl) ?_
        refine RunG.still rfl rfl rfl rfl (Still.load rfl rfl Tryz.isAgg22 (fun _ hs => cell_nth (hs.at (i := 1) rfl) rfl)) ?_
        refine RunG.still rfl rfl rfl rfl (Still.fieldAddrL (off := 0) (off' := 0) rfl rfl Tryz.underlying68 rfl Tryz.sizeOf3 rfl) ?_
        refine RunG.still rfl rfl rfl rfl (Still.load rfl rfl Tryz.isAgg3 (fun _ hs => cell_nth (hs.at (i := 5) rfl) rfl)) ?_
        refine RunG.still rfl rfl rfl rfl (Still.fieldAddrL (off := 0) (off' := 1) rfl rfl Tryz.underlying68 rfl Tryz.sizeOf3 rfl) ?_
        refine RunG.still rfl rfl rfl rfl (Still.load rfl rfl Tryz.isAgg3 (fun _ hs => cell_nth (hs.at (i := 5) rfl) rfl)) ?_
        refine RunG.still rfl rfl rfl rfl (Still.fieldAddrL (off := 0) (off' := 0) rfl rfl Tryz.underlying34 rfl Tryz.sizeOf3 rfl) ?_
        refine RunG.still rfl rfl rfl rfl (Still.load rfl rfl Tryz.isAgg3 (fun _ hs => cell_nth (hs.at (i := 4) rfl) rfl)) ?_
        refine RunG.still rfl rfl rfl rfl (Still.load rfl rfl Tryz.isAgg3 (fun _ hs => cell_nth (hs.at (i := 2) rfl) rfl)) ?_
        refine RunG.still rfl rfl rfl rfl (Still.add rfl rfl rfl (fits64 (by omega) (by omega))) ?_
        refine RunG.still rfl rfl rfl rfl (Still.indexOwnI (m := t) rfl rfl rfl Tryz.underlying22 Tryz.sizeOf35 (fun _ hs => hs.own (i := 0) rfl) (rfl) (by omega)) ?_
        refine RunG.still rfl rfl rfl rfl (Still.indexArrE f rfl rfl rfl Tryz.underlying35 Tryz.sizeOf34 (rfl) (by omega)) ?_
        refine RunG.still rfl rfl rfl rfl (Still.fieldAddrA (off := 0) rfl rfl Tryz.underlying34 rfl Tryz.sizeOf3 rfl) ?_
        refine RunG.done ?_
        show RunL _ _ _ [_] _ _
        refine RunL.does0 rfl rfl (Does.storeOwn1 (xs' := ((setFc (cg2To (uniG g g) g.length (twH g.length) (4 * t + f)) t f (twH g.length t f (fAt (uniG g g) t f))).flatMap encT)) rfl rfl ((congrArg (fun z => Addr.add z _) (add_add _ _ _)).trans (add_add _ _ _)) rfl (i := 0) rfl Tryz.sizeOf3 rfl (by rw [flat_len encT_len, cg2To_len]; omega) ((setTet_flat (by rw [cg2To_len]; omega) hf4 _).trans (congrArg (List.flatMap encT) (by rw [(cg2To_cur (n := g.length) hul htN hf4).1, tw_lo hok htN hf4 ⟨h29, h34⟩, uniG_lo htN])))) (fun _ _ => ?_)
        refine RunL.nil ?_
        refine Ends.then ?_
        refine RunC.draw 13 (.still 0 (.still 1 (.still 2 (.still 3 (.still 4 (.still 5 (.still 6 (.still 7 (.still 8 (.still 9 (.still 10 (.still 11 (.still 12 .done))))))))))))) (by kernel_rfl) (by kernel_rfl) ?_
        refine RunG.still rfl rfl rfl rfl (Still.fieldAddrL (off := 0) (off' := 0) rfl rfl Tryz.underlying24 rfl Tryz.sizeOf22 rfl) ?_
        refine RunG.still rfl rfl rfl rfl (Still.load rfl rfl Tryz.isAgg22 (fun _ hs => cell_nth (hs.at (i := 1) rfl) rfl)) ?_
        refine RunG.still rfl rfl rfl rfl (Still.fieldAddrL (off := 0) (off' := 0) rfl rfl Tryz.underlying68 rfl Tryz.sizeOf3 rfl) ?_
        refine RunG.still rfl rfl rfl rfl (Still.load rfl rfl Tryz.isAgg3 (fun _ hs => cell_nth (hs.at (i := 5) rfl) rfl)) ?_
        refine RunG.still rfl rfl rfl rfl (Still.load rfl rfl Tryz.isAgg3 (fun _ hs => cell_nth (hs.at (i := 2) rfl) rfl)) ?_
        refine RunG.still rfl rfl rfl rfl (Still.add rfl rfl rfl (fits64 (by omega) (by omega))) ?_
        refine RunG.still rfl rfl rfl rfl (Still.fieldAddrL (off := 0) (off' := 1) rfl rfl Tryz.underlying68 rfl Tryz.sizeOf3 rfl) ?_
        refine RunG.still rfl rfl rfl rfl (Still.load rfl rfl Tryz.isAgg3 (fun _ hs => cell_nth (hs.at (i := 5) rfl) rfl)) ?_
        refine RunG.still rfl rfl rfl rfl (Still.fieldAddrL (off := 0) (off' := 0) rfl rfl Tryz.underlying34 rfl Tryz.sizeOf3 rfl) ?_
        refine RunG.still rfl rfl rfl rfl (Still.load rfl rfl Tryz.isAgg3 (fun _ hs => cell_nth (hs.at (i := 4) rfl) rfl)) ?_
        refine RunG.still rfl rfl rfl rfl (Still.indexOwnI (m := (t + g.length)) rfl rfl rfl Tryz.underlying22 Tryz.sizeOf35 (fun _ hs => hs.own (i := 0) rfl) (by omega) (by omega)) ?_
        refine RunG.still rfl rfl rfl rfl (Still.indexArrE f rfl rfl rfl Tryz.underlying35 Tryz.sizeOf34 (rfl) (by omega)) ?_
        refine RunG.still rfl rfl rfl rfl (Still.fieldAddrA (off := 0) rfl rfl Tryz.underlying34 rfl Tryz.sizeOf3 rfl) ?_
        refine RunG.done ?_
        show RunL _ _ _ [_] _ _
        refine RunL.does0 rfl rfl (Does.storeOwn1 (xs' := ((cg2To (uniG g g) g.length (twH g.length) (4 * t + f + 1)).flatMap encT)) rfl rfl ((congrArg (fun z => Addr.add z _) (add_add _ _ _)).trans (add_add _ _ _)) rfl (i := 0) rfl Tryz.sizeOf3 rfl (by rw [flat_len encT_len, setFc_len, cg2To_len]; omega) ((setTet_flat (by rw [setFc_len, cg2To_len]; omega) hf4 _).trans (congrArg (List.flatMap encT) (by rw [cg2To_step _ _ _ _ hf4, fAt_setFc (by rw [cg2To_len]; omega) hf4 hf4, if_neg (by omega), (cg2To_cur (n := g.length) hul htN hf4).2, tw_hi hok htN hf4 ⟨h29, h34⟩, uniG_hi htN hf4, shF, if_pos h29])))) (fun _ _ => ?_)
        refine RunL.nil ?_
        refine Ends.block ?_
        refine Ends.conv (fun _ hs => (Sym.all (l := [HL.own 35 20 (.slice q.1 (2 * g.length) q.2) (2 * g.length) ((cg2To (uniG g g) g.length (twH g.length) (4 * t + f + 1)).flatMap encT), HL.obj b4 (.cells #[.slice q.1 (2 * g.length) q.2] 24 (0, 0)), HL.obj b6 (.cells #[iv (g.length : Int)] 3 (0, 0))]) (hs.sub (HSub.pick 0 rfl (HSub.pick 0 rfl (HSub.pick 0 rfl (HSub.pick 0 rfl (HSub.nil _))))))).sub (HSub.pick 1 rfl (HSub.pick 0 rfl (HSub.nil _)))) (Ends.roundEndJ () rfl (HSub.refl _))
      · have h34 := of_decide_eq_false h34
        refine RunC.skip ?_
        refine Ends.block ?_
        have hno := tw_no htN hf4 (by omega)
        refine Ends.conv (fun _ hs => (Sym.all (l := [HL.own 35 20 (.slice q.1 (2 * g.length) q.2) (2 * g.length) ((cg2To (uniG g g) g.length (twH g.length) (4 * t + f + 1)).flatMap encT), HL.obj b4 (.cells #[.slice q.1 (2 * g.length) q.2] 24 (0, 0)), HL.obj b6 (.cells #[iv (g.length : Int)] 3 (0, 0))]) (hs.sub (HSub.pick 0 (by rw [cg2To_keep (n := g.length) hul htN hf4 hno.1 hno.2]; rfl) (HSub.pick 0 rfl (HSub.pick 0 rfl (HSub.pick 0 rfl (HSub.nil _))))))).sub (HSub.pick 1 rfl (HSub.pick 0 rfl (HSub.nil _)))) (Ends.roundEndJ () rfl (HSub.refl _))
    · have h29 := of_decide_eq_false h29
      refine RunL.off rfl rfl rfl ?_
      refine RunL.off rfl rfl rfl ?_
      refine RunL.off rfl rfl rfl ?_
      refine RunL.off rfl rfl rfl ?_
      refine RunL.still rfl rfl rfl (Still.pickF rfl rfl rfl) ?_
      refine RunL.nil ?_
      refine Ends.then ?_
      refine RunC.cond_false rfl ?_
      refine RunC.skip ?_
      refine Ends.block ?_
      have hno := tw_no htN hf4 (by omega)
      refine Ends.conv (fun _ hs => (Sym.all (l := [HL.own 35 20 (.slice q.1 (2 * g.length) q.2) (2 * g.length) ((cg2To (uniG g g) g.length (twH g.length) (4 * t + f + 1)).flatMap encT), HL.obj b4 (.cells #[.slice q.1 (2 * g.length) q.2] 24 (0, 0)), HL.obj b6 (.cells #[iv (g.length : Int)] 3 (0, 0))]) (hs.sub (HSub.pick 0 (by rw [cg2To_keep (n := g.length) hul htN hf4 hno.1 hno.2]; rfl) (HSub.pick 0 rfl (HSub.pick 0 rfl (HSub.pick 0 rfl (HSub.nil _))))))).sub (HSub.pick 1 rfl (HSub.pick 0 rfl (HSub.nil _)))) (Ends.roundEndJ () rfl (HSub.refl _))
  · intro l J w hs hy
    exact gl_faces1 base A cap g l gb _ _ J w rfl (hs.holds _ (List.mem_cons_self ..)) hs.ltK (fun w1 ho => hg.old (hs.oldK ho)) (fun w1 ho => cell_nth (hs.keep (i := 0) rfl ho) rfl) (fun t f s ht hf hj w1 ho hh hl => by have h := hy (4 * t + f) s (by omega) hj w1 ho hh hl; rwa [show (4 * t + f) / 4 = t by omega, show (4 * t + f) % 4 = f by omega] at h)
  · intro D j s hjN
    cases s
    · change Go.V.Ends _ Exit.normal _ _ _
      refine Ends.conv (fun _ hs => Sym.marks_push (hs.sub (HSub.pick 1 rfl (HSub.pick 4 rfl (HSub.pick 0 rfl (HSub.pick 0 rfl (HSub.pick 0 rfl (HSub.pick 0 rfl (HSub.nil _))))))))) ?_
      refine Ends.conv (fun _ hs => Sym.unall (hs.sub (HSub.pick 1 rfl (HSub.pick 0 rfl (HSub.pick 0 rfl (HSub.pick 0 rfl (HSub.pick 0 rfl (HSub.nil _)))))))) ?_
      have hgN := hjN rfl
      subst hgN
      refine Ends.conv (fun _ hs => hs.re 0 rfl (show _ = HL.own 35 20 (.slice q.1 (2 * g.length) q.2) (2 * g.length) ((twoG g).flatMap encT) by rw [cg2To_all _ (n := g.length) hul]; rfl)) ?_
      refine Ends.block ?_
      refine Ends.then ?_
      refine RunC.seq ?_
      refine RunC.region ?_
      refine RunL.still rfl rfl rfl (Still.loads rfl rfl Tryz.isAgg24 Tryz.sizeOf24 (vs := [_]) rfl (fun _ hs => cells_nth (hs.at (i := 1) rfl) ⟨rfl, trivial⟩)) ?_
      refine RunL.does0 rfl rfl (Does.store rfl rfl rfl (i := 5) rfl Tryz.sizeOf24 rfl (rfl) rfl) (fun _ _ => ?_)
      refine RunL.still rfl rfl rfl (Still.assign rfl rfl) ?_
      refine RunL.nil ?_
      refine Ends.then ?_
      refine RunC.ret ?_
      refine Ends.leaveM (Ds := [D]) (H := [_, _]) (.inl rfl) (HSub.pick 3 rfl (HSub.pick 4 rfl (HSub.pick 0 rfl (HSub.nil _)))) (fun _ _ ok => ok.results2 Tryz.results12 (Holds.cell rfl (fun _ hs => load_cells (vs := [_]) Tryz.isAgg24 Tryz.sizeOf24 rfl (cells_nth (hs.at (i := 0) rfl) ⟨rfl, trivial⟩))) (Holds.tmp rfl)) (fun w1 hs => ?_)
      exact Ret.intro q hq2 (by show _ = Value.tuple #[gluV q.1 q.2 (twoG g), iv 0]; simp only [gluV, twoG_len]; try rfl) (HSub.pick 1 (by rw [ownG, twoG_len]; rfl) (HSub.nil _)) hs

theorem gl_Double (base : Option Addr) (A : Addr) (cap : Nat) (g : Glu) (w : World) (hg : GluAt w base A g) (hok : okG g = true) (hn : 2 * g.length ≤ 1000) : Gives Tryz.prog 13 #[gluV base cap g] w Nil (fun q : Option Addr × Nat => OKB q (dblG g).length) (fun q => .tuple #[gluV q.1 q.2 (dblG g), iv 0]) (fun q => [ownG q (dblG g)]) := by
  have hlen := hg.len
  have hul : (uniG g g).length = 2 * g.length := by rw [uniG_len]; omega
  refine fn_of_runM (S := Nil) (args := [gluV base cap g]) (n := 58) (L := []) Tryz.func13 rfl Tryz.ntmps13 (Nat.le_of_ble_eq_true rfl) (Sym.nil _ _) ?_
  change RunC _ _ _ [(0, _)] _
  refine RunC.conv (fun _ hs => hs.marks_nil) ?_
  refine RunC.seq ?_
  refine RunC.region ?_
  refine RunL.grows rfl rfl rfl (Grows.box rfl rfl) (fun b1 _ => ?_)
  refine RunL.grows rfl rfl rfl (Grows.alloc rfl Tryz.zeroValue24) (fun b2 _ => ?_)
  refine RunL.still rfl rfl rfl (Still.assign rfl rfl) ?_
  refine RunL.nil ?_
  refine Ends.then ?_
  refine RunC.seq ?_
  refine RunC.region ?_
  refine RunL.still rfl rfl rfl (Still.loads rfl rfl Tryz.isAgg24 Tryz.sizeOf24 (vs := [_]) rfl (fun _ hs => cells_nth (hs.at (i := 1) rfl) ⟨rfl, trivial⟩)) ?_
  refine RunL.still rfl rfl rfl (Still.loads rfl rfl Tryz.isAgg24 Tryz.sizeOf24 (vs := [_]) rfl (fun _ hs => cells_nth (hs.at (i := 1) rfl) ⟨rfl, trivial⟩)) ?_
  refine RunL.grows rfl rfl rfl (Grows.call (vs := #[_, _]) rfl rfl Tryz.call22 (fun w hs => gl_Union_ok base A cap g base A cap g w (hg.sym hs) (hg.sym hs) hok hok (by omega))) (fun q hq => ?_)
  have hq : OKB q (uniG g g).length := hq
  have hq2 : OKB q (dblG g).length := by have := hq; rw [hul] at this; rw [dblG_len]; exact this
  refine RunL.conv (fun _ hs => hs.re 0 rfl (show _ = HL.own 35 20 (.slice q.1 (2 * g.length) q.2) (2 * g.length) ((uniG g g).flatMap encT) by rw [ownG, hul])) ?_
  refine RunL.still rfl rfl rfl (Still.move rfl rfl) ?_
  refine RunL.still rfl rfl rfl (Still.extractN rfl rfl rfl) ?_
  refine RunL.still rfl rfl rfl (Still.extractN rfl rfl rfl) ?_
  refine RunL.grows rfl rfl rfl (Grows.alloc rfl Tryz.zeroValue24) (fun b4 _ => ?_)
  refine RunL.does0 rfl rfl (Does.store rfl rfl rfl (i := 0) rfl Tryz.sizeOf24 rfl (rfl) rfl) (fun _ _ => ?_)
  refine RunL.conv (fun _ hs => hs.re 0 rfl (show _ = HL.obj b4 (.cells #[.slice q.1 (2 * g.length) q.2] 24 (0, 0)) from by simp only [gluV, hul]; rfl)) ?_
  refine RunL.still rfl rfl rfl (Still.assign rfl rfl) ?_
  refine RunL.nil ?_
  refine Ends.then ?_
  refine RunC.seq ?_
  refine RunC.seq ?_
  refine RunC.region ?_
  refine RunL.still rfl rfl rfl (Still.move rfl rfl) ?_
  refine RunL.still rfl rfl rfl (Still.neq rfl rfl rfl) ?_
  refine RunL.again (t := 16) (u := .bool false) rfl (rfl) ?_
  refine RunL.nil ?_
  refine Ends.then ?_
  refine RunC.cond_false rfl ?_
  refine RunC.skip ?_
  refine Ends.then ?_
  refine RunC.seq ?_
  refine RunC.region ?_
  refine RunL.still rfl rfl rfl (Still.fieldAddrL (off := 0) (off' := 0) rfl rfl Tryz.underlying24 rfl Tryz.sizeOf22 rfl) ?_
  refine RunL.still rfl rfl rfl (Still.load rfl rfl Tryz.isAgg22 (fun _ hs => cell_nth (hs.at (i := 3) rfl) rfl)) ?_
  refine RunL.still rfl rfl rfl (Still.lenSlice rfl rfl Tryz.underlying22) ?_
  refine RunL.grows rfl rfl rfl (Grows.alloc rfl Tryz.zeroValue3) (fun b6 _ => ?_)
  refine RunL.does0 rfl rfl (Does.store1 rfl rfl rfl (i := 0) rfl Tryz.sizeOf3 (rfl) (rfl)) (fun _ _ => ?_)
  refine RunL.nil ?_
  refine Ends.then ?_
  refine RunC.seq ?_
  refine RunC.seq ?_
  refine RunC.region ?_
  refine RunL.still rfl rfl rfl (Still.loads rfl rfl Tryz.isAgg24 Tryz.sizeOf24 (vs := [_]) rfl (fun _ hs => cells_nth (hs.at (i := 4) rfl) ⟨rfl, trivial⟩)) ?_
  refine RunL.grows rfl rfl rfl (Grows.call (vs := #[_]) rfl rfl Tryz.call45 (fun w hs => gl_faces base A cap g w)) (fun gb _ => ?_)
  refine RunL.nil ?_
  refine Ends.then ?_
  refine RunC.block ?_
  refine RunC.conv (fun _ hs => Sym.all (l := [_, _, _]) (hs.sub (HSub.pick 3 rfl (HSub.pick 2 rfl (HSub.pick 1 rfl (HSub.pick 0 rfl (HSub.pick 0 rfl (HSub.pick 0 rfl (HSub.pick 0 rfl (HSub.nil _)))))))))) ?_
  refine RunC.rangeFuncJ (V := .tuple #[]) (gf := 70) (N := 4 * g.length) (lb := #[ptrV gb]) () (fun _ : Unit => none) (fun j => [.agg #[iv ((j / 4 : Nat) : Int), iv ((j % 4 : Nat) : Int)], fcV (fAt g (j / 4) (j % 4))]) (fun j s => HL.all [HL.own 35 20 (.slice q.1 (2 * g.length) q.2) (2 * g.length) ((cg2To (uniG g g) g.length (dbH g.length) j).flatMap encT), HL.obj b4 (.cells #[.slice q.1 (2 * g.length) q.2] 24 (0, 0)), HL.obj b6 (.cells #[iv (g.length : Int)] 3 (0, 0))]) rfl rfl (fun _ => rfl) rfl Tryz.call70 rfl (HSub.pick 0 rfl (HSub.refl _)) ?_ ?_ ?_
  · intro l rc j s w S hO hS hj hjs ha hb
    obtain ⟨t, f, rfl, hf4⟩ : ∃ t f, j = 4 * t + f ∧ f < 4 := ⟨j / 4, j % 4, by omega, by omega⟩
    have htN : t < g.length := by omega
    have hxb := okG_tet hok htN hf4
    have e1 : (4 * t + f) / 4 = t := by omega
    have e2 : (4 * t + f) % 4 = f := by omega
    rw [e1, e2]
    refine RunC.seq ?_
    refine RunC.region ?_
    refine RunL.grows rfl rfl rfl (Grows.alloc rfl Tryz.zeroValue68) (fun b7 _ => ?_)
    refine RunL.does0 rfl rfl (Does.store rfl rfl rfl (i := 0) rfl Tryz.sizeOf68 rfl (rfl) rfl) (fun _ _ => ?_)
    refine RunL.nil ?_
    refine Ends.then ?_
    refine RunC.region ?_
    refine RunL.grows rfl rfl rfl (Grows.alloc rfl Tryz.zeroValue34) (fun b8 _ => ?_)
    refine RunL.does0 rfl rfl (Does.store rfl rfl rfl (i := 0) rfl Tryz.sizeOf34 rfl (rfl) rfl) (fun _ _ => ?_)
    refine RunL.nil ?_
    refine Ends.roundBeginJ (Fr.Sub.refl _) (HSub.pick 2 rfl (HSub.refl _)) ?_
    refine RunC.conv (fun _ hs => Sym.unall (hs.sub (HSub.pick 3 rfl (HSub.pick 0 rfl (HSub.pick 0 rfl (HSub.pick 0 rfl (HSub.nil _))))))) ?_
    refine RunC.block ?_
    refine RunC.seq ?_
    refine RunC.region ?_
    refine RunL.still rfl rfl rfl (Still.fieldAddrL (off := 0) (off' := 0) rfl rfl Tryz.underlying34 rfl Tryz.sizeOf3 rfl) ?_
    refine RunL.still rfl rfl rfl (Still.load rfl rfl Tryz.isAgg3 (fun _ hs => cell_nth (hs.at (i := 4) rfl) rfl)) ?_
    refine RunL.still rfl rfl rfl (Still.lss rfl rfl rfl) ?_
    refine RunL.nil ?_
    refine Ends.then ?_
    refine RunC.cond rfl (fun h28 => ?_) (fun h28 => ?_)
    · have h28 := of_decide_eq_true h28
      refine RunC.seq ?_
      refine RunC.draw 14 (.still 0 (.still 1 (.still 2 (.still 3 (.still 4 (.still 5 (.still 6 (.still 7 (.still 8 (.still 9 (.still 12 (.one 10 (.still 11 (.still 13 .done)))))))))))))) (by kernel_rfl) (by kernel_rfl) ?_
      refine RunG.still rfl rfl rfl rfl (Still.fieldAddrL (off := 0) (off' := 0) rfl rfl Tryz.underlying24 rfl Tryz.sizeOf22 rfl) ?_
      refine RunG.still rfl rfl rfl rfl (Still.load rfl rfl Tryz.isAgg22 (fun _ hs => cell_nth (hs.at (i := 1) rfl) rfl)) ?_
      refine RunG.still rfl rfl rfl rfl (Still.fieldAddrL (off := 0) (off' := 0) rfl rfl Tryz.underlying68 rfl Tryz.sizeOf3 rfl) ?_
      refine RunG.still rfl rfl rfl rfl (Still.load rfl rfl Tryz.isAgg3 (fun _ hs => cell_nth (hs.at (i := 5) rfl) rfl)) ?_
      refine RunG.still rfl rfl rfl rfl (Still.fieldAddrL (off := 0) (off' := 1) rfl rfl Tryz.underlying68 rfl Tryz.sizeOf3 rfl) ?_
      refine RunG.still rfl rfl rfl rfl (Still.load rfl rfl Tryz.isAgg3 (fun _ hs => cell_nth (hs.at (i := 5) rfl) rfl)) ?_
      refine RunG.still rfl rfl rfl rfl (Still.fieldAddrL (off := 0) (off' := 0) rfl rfl Tryz.underlying68 rfl Tryz.sizeOf3 rfl) ?_
      refine RunG.still rfl rfl rfl rfl (Still.load rfl rfl Tryz.isAgg3 (fun _ hs => cell_nth (hs.at (i := 5) rfl) rfl)) ?_
      refine RunG.still rfl rfl rfl rfl (Still.load rfl rfl Tryz.isAgg3 (fun _ hs => cell_nth (hs.at (i := 2) rfl) rfl)) ?_
      refine RunG.still rfl rfl rfl rfl (Still.add rfl rfl rfl (fits64 (by omega) (by omega))) ?_
      refine RunG.still rfl rfl rfl rfl (Still.indexOwnI (m := t) rfl rfl rfl Tryz.underlying22 Tryz.sizeOf35 (fun _ hs => hs.own (i := 0) rfl) (rfl) (by omega)) ?_
      refine RunG.grows rfl rfl rfl rfl (Grows.call (vs := #[]) rfl rfl Tryz.call47 (fun w hs => gl_identity w)) (fun _ _ => ?_)
      refine RunG.still rfl rfl rfl rfl (Still.build_1_4 (fun x0_0 x1_0 x1_1 x1_2 x1_3 => .agg #[x0_0, x1_0, x1_1, x1_2, x1_3]) rfl rfl rfl (fun _ => by kernel_rfl)) ?_
      refine RunG.still rfl rfl rfl rfl (Still.indexArrE f rfl rfl rfl Tryz.underlying35 Tryz.sizeOf34 (rfl) (by omega)) ?_
      refine RunG.done ?_
      show RunL _ _ _ [_] _ _
      refine RunL.does0 rfl rfl (Does.storeOwn (xs' := ((setFc (cg2To (uniG g g) g.length (dbH g.length) (4 * t + f)) t f (dbH g.length t f (fAt (uniG g g) t f))).flatMap encT)) rfl rfl (add_add _ _ _) rfl (i := 0) rfl Tryz.sizeOf34 rfl (by decide) rfl (by rw [flat_len encT_len, cg2To_len]; omega) (by rw [db_lo htN h28]; exact setFc_flat (by rw [cg2To_len]; omega) hf4 _)) (fun _ _ => ?_)
      refine RunL.nil ?_
      refine Ends.then ?_
      refine RunC.draw 14 (.still 0 (.still 1 (.still 2 (.still 3 (.still 4 (.still 5 (.still 6 (.still 7 (.still 8 (.still 9 (.still 12 (.one 10 (.still 11 (.still 13 .done)))))))))))))) (by kernel_rfl) (by kernel_rfl) ?_
      refine RunG.still rfl rfl rfl rfl (Still.fieldAddrL (off := 0) (off' := 0) rfl rfl Tryz.underlying24 rfl Tryz.sizeOf22 rfl) ?_
      refine RunG.still rfl rfl rfl rfl (Still.load rfl rfl Tryz.isAgg22 (fun _ hs => cell_nth (hs.at (i := 1) rfl) rfl)) ?_
      refine RunG.still rfl rfl rfl rfl (Still.fieldAddrL (off := 0) (off' := 0) rfl rfl Tryz.underlying68 rfl Tryz.sizeOf3 rfl) ?_
      refine RunG.still rfl rfl rfl rfl (Still.load rfl rfl Tryz.isAgg3 (fun _ hs => cell_nth (hs.at (i := 5) rfl) rfl)) ?_
      refine RunG.still rfl rfl rfl rfl (Still.load rfl rfl Tryz.isAgg3 (fun _ hs => cell_nth (hs.at (i := 2) rfl) rfl)) ?_
      refine RunG.still rfl rfl rfl rfl (Still.add rfl rfl rfl (fits64 (by omega) (by omega))) ?_
      refine RunG.still rfl rfl rfl rfl (Still.fieldAddrL (off := 0) (off' := 1) rfl rfl Tryz.underlying68 rfl Tryz.sizeOf3 rfl) ?_
      refine RunG.still rfl rfl rfl rfl (Still.load rfl rfl Tryz.isAgg3 (fun _ hs => cell_nth (hs.at (i := 5) rfl) rfl)) ?_
      refine RunG.still rfl rfl rfl rfl (Still.fieldAddrL (off := 0) (off' := 0) rfl rfl Tryz.underlying68 rfl Tryz.sizeOf3 rfl) ?_
      refine RunG.still rfl rfl rfl rfl (Still.load rfl rfl Tryz.isAgg3 (fun _ hs => cell_nth (hs.at (i := 5) rfl) rfl)) ?_
      refine RunG.still rfl rfl rfl rfl (Still.indexOwnI (m := (t + g.length)) rfl rfl rfl Tryz.underlying22 Tryz.sizeOf35 (fun _ hs => hs.own (i := 0) rfl) (by omega) (by omega)) ?_
      refine RunG.grows rfl rfl rfl rfl (Grows.call (vs := #[]) rfl rfl Tryz.call47 (fun w hs => gl_identity w)) (fun _ _ => ?_)
      refine RunG.still rfl rfl rfl rfl (Still.build_1_4 (fun x0_0 x1_0 x1_1 x1_2 x1_3 => .agg #[x0_0, x1_0, x1_1, x1_2, x1_3]) rfl rfl rfl (fun _ => by kernel_rfl)) ?_
      refine RunG.still rfl rfl rfl rfl (Still.indexArrE f rfl rfl rfl Tryz.underlying35 Tryz.sizeOf34 (rfl) (by omega)) ?_
      refine RunG.done ?_
      show RunL _ _ _ [_] _ _
      refine RunL.does0 rfl rfl (Does.storeOwn (xs' := ((cg2To (uniG g g) g.length (dbH g.length) (4 * t + f + 1)).flatMap encT)) rfl rfl (add_add _ _ _) rfl (i := 0) rfl Tryz.sizeOf34 rfl (by decide) rfl (by rw [flat_len encT_len, setFc_len, cg2To_len]; omega) (by rw [cg2To_step _ _ _ _ hf4, db_hi htN hf4 h28]; exact setFc_flat (by rw [setFc_len, cg2To_len]; omega) hf4 _)) (fun _ _ => ?_)
      refine RunL.nil ?_
      refine Ends.block ?_
      refine Ends.conv (fun _ hs => (Sym.all (l := [HL.own 35 20 (.slice q.1 (2 * g.length) q.2) (2 * g.length) ((cg2To (uniG g g) g.length (dbH g.length) (4 * t + f + 1)).flatMap encT), HL.obj b4 (.cells #[.slice q.1 (2 * g.length) q.2] 24 (0, 0)), HL.obj b6 (.cells #[iv (g.length : Int)] 3 (0, 0))]) (hs.sub (HSub.pick 0 rfl (HSub.pick 0 rfl (HSub.pick 0 rfl (HSub.pick 0 rfl (HSub.nil _))))))).sub (HSub.pick 1 rfl (HSub.pick 0 rfl (HSub.nil _)))) (Ends.roundEndJ () rfl (HSub.refl _))
    · have h28 := of_decide_eq_false h28
      refine RunC.skip ?_
      refine Ends.block ?_
      have hno := db_no htN hf4 h28
      refine Ends.conv (fun _ hs => (Sym.all (l := [HL.own 35 20 (.slice q.1 (2 * g.length) q.2) (2 * g.length) ((cg2To (uniG g g) g.length (dbH g.length) (4 * t + f + 1)).flatMap encT), HL.obj b4 (.cells #[.slice q.1 (2 * g.length) q.2] 24 (0, 0)), HL.obj b6 (.cells #[iv (g.length : Int)] 3 (0, 0))]) (hs.sub (HSub.pick 0 (by rw [cg2To_keep (n := g.length) hul htN hf4 hno.1 hno.2]; rfl) (HSub.pick 0 rfl (HSub.pick 0 rfl (HSub.pick 0 rfl (HSub.nil _))))))).sub (HSub.pick 1 rfl (HSub.pick 0 rfl (HSub.nil _)))) (Ends.roundEndJ () rfl (HSub.refl _))
  · intro l J w hs hy
    exact gl_faces1 base A cap g l gb _ _ J w rfl (hs.holds _ (List.mem_cons_self ..)) hs.ltK (fun w1 ho => hg.old (hs.oldK ho)) (fun w1 ho => cell_nth (hs.keep (i := 0) rfl ho) rfl) (fun t f s ht hf hj w1 ho hh hl => by have h := hy (4 * t + f) s (by omega) hj w1 ho hh hl; rwa [show (4 * t + f) / 4 = t by omega, show (4 * t + f) % 4 = f by omega] at h)
  · intro D j s hjN
    cases s
    · change Go.V.Ends _ Exit.normal _ _ _
      refine Ends.conv (fun _ hs => Sym.marks_push (hs.sub (HSub.pick 1 rfl (HSub.pick 4 rfl (HSub.pick 0 rfl (HSub.pick 0 rfl (HSub.pick 0 rfl (HSub.pick 0 rfl (HSub.nil _))))))))) ?_
      refine Ends.conv (fun _ hs => Sym.unall (hs.sub (HSub.pick 1 rfl (HSub.pick 0 rfl (HSub.pick 0 rfl (HSub.pick 0 rfl (HSub.pick 0 rfl (HSub.nil _)))))))) ?_
      have hgN := hjN rfl
      subst hgN
      refine Ends.conv (fun _ hs => hs.re 0 rfl (show _ = HL.own 35 20 (.slice q.1 (2 * g.length) q.2) (2 * g.length) ((dblG g).flatMap encT) by rw [cg2To_all _ (n := g.length) hul]; rfl)) ?_
      refine Ends.block ?_
      refine Ends.then ?_
      refine RunC.seq ?_
      refine RunC.region ?_
      refine RunL.still rfl rfl rfl (Still.loads rfl rfl Tryz.isAgg24 Tryz.sizeOf24 (vs := [_]) rfl (fun _ hs => cells_nth (hs.at (i := 1) rfl) ⟨rfl, trivial⟩)) ?_
      refine RunL.does0 rfl rfl (Does.store rfl rfl rfl (i := 5) rfl Tryz.sizeOf24 rfl (rfl) rfl) (fun _ _ => ?_)
      refine RunL.still rfl rfl rfl (Still.assign rfl rfl) ?_
      refine RunL.nil ?_
      refine Ends.then ?_
      refine RunC.ret ?_
      refine Ends.leaveM (Ds := [D]) (H := [_, _]) (.inl rfl) (HSub.pick 3 rfl (HSub.pick 4 rfl (HSub.pick 0 rfl (HSub.nil _)))) (fun _ _ ok => ok.results2 Tryz.results13 (Holds.cell rfl (fun _ hs => load_cells (vs := [_]) Tryz.isAgg24 Tryz.sizeOf24 rfl (cells_nth (hs.at (i := 0) rfl) ⟨rfl, trivial⟩))) (Holds.tmp rfl)) (fun w1 hs => ?_)
      exact Ret.intro q hq2 (by show _ = Value.tuple #[gluV q.1 q.2 (dblG g), iv 0]; simp only [gluV, dblG_len]; try rfl) (HSub.pick 1 (by rw [ownG, dblG_len]; rfl) (HSub.nil _)) hs

theorem gl_Twofold_bad (base : Option Addr) (A : Addr) (cap : Nat) (g : Glu) (w : World) (hg : GluAt w base A g) (hok : okG g = false) : Gives Tryz.prog 12 #[gluV base cap g] w Nil (fun _ : Unit => True) (fun _ => .tuple #[.agg #[.slice none 0 0], iv 7]) (fun _ => []) := by
  refine fn_of_runM (S := Nil) (args := [gluV base cap g]) (n := 62) (L := []) Tryz.func12 rfl Tryz.ntmps12 (Nat.le_of_ble_eq_true rfl) (Sym.nil _ _) ?_
  change RunC _ _ _ [(0, _)] _
  refine RunC.conv (fun _ hs => hs.marks_nil) ?_
  refine RunC.seq ?_
  refine RunC.region ?_
  refine RunL.grows rfl rfl rfl (Grows.box rfl rfl) (fun b1 _ => ?_)
  refine RunL.grows rfl rfl rfl (Grows.alloc rfl Tryz.zeroValue24) (fun b2 _ => ?_)
  refine RunL.still rfl rfl rfl (Still.assign rfl rfl) ?_
  refine RunL.nil ?_
  refine Ends.then ?_
  refine RunC.seq ?_
  refine RunC.region ?_
  refine RunL.still rfl rfl rfl (Still.loads rfl rfl Tryz.isAgg24 Tryz.sizeOf24 (vs := [_]) rfl (fun _ hs => cells_nth (hs.at (i := 1) rfl) ⟨rfl, trivial⟩)) ?_
  refine RunL.still rfl rfl rfl (Still.loads rfl rfl Tryz.isAgg24 Tryz.sizeOf24 (vs := [_]) rfl (fun _ hs => cells_nth (hs.at (i := 1) rfl) ⟨rfl, trivial⟩)) ?_
  refine RunL.grows rfl rfl rfl (Grows.call (vs := #[_, _]) rfl rfl Tryz.call22 (fun w hs => gl_Union_bad base A cap g base A cap g w (hg.sym hs) (hg.sym hs) (fun h => by rw [hok] at h; cases h.1))) (fun _ _ => ?_)
  refine RunL.still rfl rfl rfl (Still.move rfl rfl) ?_
  refine RunL.still rfl rfl rfl (Still.extractN rfl rfl rfl) ?_
  refine RunL.still rfl rfl rfl (Still.extractN rfl rfl rfl) ?_
  refine RunL.grows rfl rfl rfl (Grows.alloc rfl Tryz.zeroValue24) (fun b4 _ => ?_)
  refine RunL.does0 rfl rfl (Does.store rfl rfl rfl (i := 0) rfl Tryz.sizeOf24 rfl (rfl) rfl) (fun _ _ => ?_)
  refine RunL.still rfl rfl rfl (Still.assign rfl rfl) ?_
  refine RunL.nil ?_
  refine Ends.then ?_
  refine RunC.seq ?_
  refine RunC.seq ?_
  refine RunC.region ?_
  refine RunL.still rfl rfl rfl (Still.move rfl rfl) ?_
  refine RunL.still rfl rfl rfl (Still.neq rfl rfl rfl) ?_
  refine RunL.again (t := 16) (u := .bool true) rfl (rfl) ?_
  refine RunL.nil ?_
  refine Ends.then ?_
  refine RunC.cond_true rfl ?_
  refine RunC.seq ?_
  refine RunC.region ?_
  refine RunL.still rfl rfl rfl (Still.build_0 (.agg #[.slice none 0 0]) rfl (fun _ => by kernel_rfl)) ?_
  refine RunL.still rfl rfl rfl (Still.move rfl rfl) ?_
  refine RunL.does0 rfl rfl (Does.store rfl rfl rfl (i := 1) rfl Tryz.sizeOf24 rfl (rfl) rfl) (fun _ _ => ?_)
  refine RunL.still rfl rfl rfl (Still.assign rfl rfl) ?_
  refine RunL.nil ?_
  refine Ends.then ?_
  refine RunC.ret ?_
  refine Ends.then_ret ?_
  refine Ends.leaveM (Ds := []) (H := [_]) (.inl rfl) (HSub.pick 3 rfl (HSub.pick 1 rfl (HSub.nil _))) (fun _ _ ok => ok.results2 Tryz.results12 (Holds.cell rfl (fun _ hs => load_cells (vs := [_]) Tryz.isAgg24 Tryz.sizeOf24 rfl (cells_nth (hs.at (i := 0) rfl) ⟨rfl, trivial⟩))) (Holds.tmp rfl)) (fun w1 hs => ?_)
  exact Ret.intro () trivial rfl (HSub.nil _) hs

theorem gl_Double_bad (base : Option Addr) (A : Addr) (cap : Nat) (g : Glu) (w : World) (hg : GluAt w base A g) (hok : okG g = false) : Gives Tryz.prog 13 #[gluV base cap g] w Nil (fun _ : Unit => True) (fun _ => .tuple #[.agg #[.slice none 0 0], iv 7]) (fun _ => []) := by
  refine fn_of_runM (S := Nil) (args := [gluV base cap g]) (n := 58) (L := []) Tryz.func13 rfl Tryz.ntmps13 (Nat.le_of_ble_eq_true rfl) (Sym.nil _ _) ?_
  change RunC _ _ _ [(0, _)] _
  refine RunC.conv (fun _ hs => hs.marks_nil) ?_
  refine RunC.seq ?_
  refine RunC.region ?_
  refine RunL.grows rfl rfl rfl (Grows.box rfl rfl) (fun b1 _ => ?_)
  refine RunL.grows rfl rfl rfl (Grows.alloc rfl Tryz.zeroValue24) (fun b2 _ => ?_)
  refine RunL.still rfl rfl rfl (Still.assign rfl rfl) ?_
  refine RunL.nil ?_
  refine Ends.then ?_
  refine RunC.seq ?_
  refine RunC.region ?_
  refine RunL.still rfl rfl rfl (Still.loads rfl rfl Tryz.isAgg24 Tryz.sizeOf24 (vs := [_]) rfl (fun _ hs => cells_nth (hs.at (i := 1) rfl) ⟨rfl, trivial⟩)) ?_
  refine RunL.still rfl rfl rfl (Still.loads rfl rfl Tryz.isAgg24 Tryz.sizeOf24 (vs := [_]) rfl (fun _ hs => cells_nth (hs.at (i := 1) rfl) ⟨rfl, trivial⟩)) ?_
  refine RunL.grows rfl rfl rfl (Grows.call (vs := #[_, _]) rfl rfl Tryz.call22 (fun w hs => gl_Union_bad base A cap g base A cap g w (hg.sym hs) (hg.sym hs) (fun h => by rw [hok] at h; cases h.1))) (fun _ _ => ?_)
  refine RunL.still rfl rfl rfl (Still.move rfl rfl) ?_
  refine RunL.still rfl rfl rfl (Still.extractN rfl rfl rfl) ?_
  refine RunL.still rfl rfl rfl (Still.extractN rfl rfl rfl) ?_
  refine RunL.grows rfl rfl rfl (Grows.alloc rfl Tryz.zeroValue24) (fun b4 _ => ?_)
  refine RunL.does0 rfl rfl (Does.store rfl rfl rfl (i := 0) rfl Tryz.sizeOf24 rfl (rfl) rfl) (fun _ _ => ?_)
  refine RunL.still rfl rfl rfl (Still.assign rfl rfl) ?_
  refine RunL.nil ?_
  refine Ends.then ?_
  refine RunC.seq ?_
  refine RunC.seq ?_
  refine RunC.region ?_
  refine RunL.still rfl rfl rfl (Still.move rfl rfl) ?_
  refine RunL.still rfl rfl rfl (Still.neq rfl rfl rfl) ?_
  refine RunL.again (t := 16) (u := .bool true) rfl (rfl) ?_
  refine RunL.nil ?_
  refine Ends.then ?_
  refine RunC.cond_true rfl ?_
  refine RunC.seq ?_
  refine RunC.region ?_
  refine RunL.still rfl rfl rfl (Still.build_0 (.agg #[.slice none 0 0]) rfl (fun _ => by kernel_rfl)) ?_
  refine RunL.still rfl rfl rfl (Still.move rfl rfl) ?_
  refine RunL.does0 rfl rfl (Does.store rfl rfl rfl (i := 1) rfl Tryz.sizeOf24 rfl (rfl) rfl) (fun _ _ => ?_)
  refine RunL.still rfl rfl rfl (Still.assign rfl rfl) ?_
  refine RunL.nil ?_
  refine Ends.then ?_
  refine RunC.ret ?_
  refine Ends.then_ret ?_
  refine Ends.leaveM (Ds := []) (H := [_]) (.inl rfl) (HSub.pick 3 rfl (HSub.pick 1 rfl (HSub.nil _))) (fun _ _ ok => ok.results2 Tryz.results13 (Holds.cell rfl (fun _ hs => load_cells (vs := [_]) Tryz.isAgg24 Tryz.sizeOf24 rfl (cells_nth (hs.at (i := 0) rfl) ⟨rfl, trivial⟩))) (Holds.tmp rfl)) (fun w1 hs => ?_)
  exact Ret.intro () trivial rfl (HSub.nil _) hs

end Go.Proofs
/- The chapter's examples. -/
namespace Go.Proofs
open Go Go.V
set_option maxRecDepth 20000
theorem gl_Orient_one (base : Option Addr) (A : Addr) (cap : Nat) (w : World) (hg : GluAt w base A gOne) : Gives Tryz.prog 15 #[gluV base cap gOne] w Nil (fun _ : Nat => True) (fun b => .tuple #[.slice (some ⟨b, 0, none⟩) 1 1, .bool true, iv 0]) (fun b => [HL.own 3 1 (.slice (some ⟨b, 0, none⟩) 1 1) 1 (ints [1])]) := by
  have h := gl_Orient base A cap gOne w hg one_ok
  have e1 : ∀ b, oriV gOne b = .tuple #[.slice (some ⟨b, 0, none⟩) 1 1, .bool true, iv 0] := fun b => by rw [oriV, one_ori]; rfl
  have e2 : ∀ b, oriH gOne b = [HL.own 3 1 (.slice (some ⟨b, 0, none⟩) 1 1) 1 (ints [1])] := fun b => by rw [oriH, one_ori]; rfl
  simp only [e1, e2] at h
  exact h
theorem gl_Text_one (g : Glu) (t : ByteArray) (base : Option Addr) (A : Addr) (cap : Nat) (w : World) (hg : GluAt w base A g) (hok : okG g = true) (ht : textG g = t) (he : Env w) : Gives Tryz.prog 26 #[gluV base cap g] w Nil (fun _ : Unit => True) (fun _ => .tuple #[.string t, iv 0]) (fun _ => []) := by
  subst ht; exact gl_Text base A cap g w hg hok he

theorem lw_sane (w : World) (he : Env w) : Gives Tryz.prog 9 #[] w Nil (fun _ : Unit => True) (fun _ => .bool true) (fun _ => []) := by
  refine fn_of_run (S := Nil) (args := []) (n := 150) (L := []) Tryz.func9 rfl Tryz.ntmps9 (Nat.le_of_ble_eq_true rfl) (Sym.nil _ _) ?_
  change RunC _ _ _ [] _
  refine RunC.seq ?_
  refine RunC.region ?_
  refine RunL.still rfl rfl rfl (Still.assign rfl rfl) ?_
  refine RunL.nil ?_
  refine Ends.then ?_
  refine RunC.seq ?_
  refine RunC.region ?_
  refine RunL.grows rfl rfl rfl (Grows.call (vs := #[]) rfl rfl Tryz.call39 (fun w hs => lw_One w)) (fun b16 _ => ?_)
  refine RunL.grows rfl rfl rfl (Grows.alloc rfl Tryz.zeroValue24) (fun b1 _ => ?_)
  refine RunL.does0 rfl rfl (Does.store rfl rfl rfl (i := 0) rfl Tryz.sizeOf24 rfl (rfl) rfl) (fun _ _ => ?_)
  refine RunL.conv (fun _ hs => hs.re 0 rfl (show _ = HL.obj b1 (.cells #[.slice (some ⟨b16, 0, none⟩) 1 1] 24 (0, 0)) from rfl)) ?_
  refine RunL.nil ?_
  refine Ends.then ?_
  refine RunC.seq ?_
  refine RunC.region ?_
  refine RunL.still rfl rfl rfl (Still.build_1 (fun x0_0 => .agg #[x0_0, .int .i64 0, .int .i64 0, .int .i64 0, .int .i64 0]) rfl rfl (fun _ => by kernel_rfl)) ?_
  refine RunL.still rfl rfl rfl (Still.build_1 (fun x0_0 => .agg #[x0_0, .int .i64 0, .int .i64 0, .int .i64 0, .int .i64 0]) rfl rfl (fun _ => by kernel_rfl)) ?_
  refine RunL.still rfl rfl rfl (Still.build_1 (fun x0_0 => .agg #[x0_0, .int .i64 0, .int .i64 0, .int .i64 0, .int .i64 0]) rfl rfl (fun _ => by kernel_rfl)) ?_
  refine RunL.still rfl rfl rfl (Still.build_1 (fun x0_0 => .agg #[x0_0, .int .i64 0, .int .i64 0, .int .i64 0, .int .i64 0]) rfl rfl (fun _ => by kernel_rfl)) ?_
  refine RunL.still rfl rfl rfl (Still.build_5_5_5_5 (fun x0_0 x0_1 x0_2 x0_3 x0_4 x1_0 x1_1 x1_2 x1_3 x1_4 x2_0 x2_1 x2_2 x2_3 x2_4 x3_0 x3_1 x3_2 x3_3 x3_4 => .agg #[x0_0, x0_1, x0_2, x0_3, x0_4, x1_0, x1_1, x1_2, x1_3, x1_4, x2_0, x2_1, x2_2, x2_3, x2_4, x3_0, x3_1, x3_2, x3_3, x3_4]) rfl rfl rfl rfl rfl (fun _ => by kernel_rfl)) ?_
  refine RunL.grows rfl rfl rfl (Grows.slice1 rfl rfl Tryz.underlying22 Tryz.sizeOf35 rfl Tryz.zeroValue35 (by decide)) (fun b22 _ => ?_)
  refine RunL.conv (fun _ hs => Sym.obj_own (k := 20) (n := 1) hs rfl (by omega)) ?_
  refine RunL.still rfl rfl rfl (Still.build_1 (fun x0_0 => .agg #[x0_0]) rfl rfl (fun _ => by kernel_rfl)) ?_
  refine RunL.grows rfl rfl rfl (Grows.alloc rfl Tryz.zeroValue24) (fun b2 _ => ?_)
  refine RunL.does0 rfl rfl (Does.store rfl rfl rfl (i := 0) rfl Tryz.sizeOf24 rfl (rfl) rfl) (fun _ _ => ?_)
  refine RunL.conv (fun _ hs => hs.re 0 rfl (show _ = HL.obj b2 (.cells #[.slice (some ⟨b22, 0, none⟩) 1 1] 24 (0, 0)) from rfl)) ?_
  refine RunL.nil ?_
  refine Ends.then ?_
  refine RunC.seq ?_
  refine RunC.region ?_
  refine RunL.grows rfl rfl rfl (Grows.call (vs := #[]) rfl rfl Tryz.call40 (fun w hs => rf_Identity w)) (fun _ _ => ?_)
  refine RunL.still rfl rfl rfl (Still.build_4 (fun x0_0 x0_1 x0_2 x0_3 => .agg #[.int .i64 0, x0_0, x0_1, x0_2, x0_3]) rfl rfl (fun _ => by kernel_rfl)) ?_
  refine RunL.still rfl rfl rfl (Still.build_1 (fun x0_0 => .agg #[x0_0, .int .i64 0, .int .i64 0, .int .i64 0, .int .i64 0]) rfl rfl (fun _ => by kernel_rfl)) ?_
  refine RunL.still rfl rfl rfl (Still.build_1 (fun x0_0 => .agg #[x0_0, .int .i64 0, .int .i64 0, .int .i64 0, .int .i64 0]) rfl rfl (fun _ => by kernel_rfl)) ?_
  refine RunL.still rfl rfl rfl (Still.build_1 (fun x0_0 => .agg #[x0_0, .int .i64 0, .int .i64 0, .int .i64 0, .int .i64 0]) rfl rfl (fun _ => by kernel_rfl)) ?_
  refine RunL.still rfl rfl rfl (Still.build_5_5_5_5 (fun x0_0 x0_1 x0_2 x0_3 x0_4 x1_0 x1_1 x1_2 x1_3 x1_4 x2_0 x2_1 x2_2 x2_3 x2_4 x3_0 x3_1 x3_2 x3_3 x3_4 => .agg #[x0_0, x0_1, x0_2, x0_3, x0_4, x1_0, x1_1, x1_2, x1_3, x1_4, x2_0, x2_1, x2_2, x2_3, x2_4, x3_0, x3_1, x3_2, x3_3, x3_4]) rfl rfl rfl rfl rfl (fun _ => by kernel_rfl)) ?_
  refine RunL.grows rfl rfl rfl (Grows.slice1 rfl rfl Tryz.underlying22 Tryz.sizeOf35 rfl Tryz.zeroValue35 (by decide)) (fun b30 _ => ?_)
  refine RunL.conv (fun _ hs => Sym.obj_own (k := 20) (n := 1) hs rfl (by omega)) ?_
  refine RunL.still rfl rfl rfl (Still.build_1 (fun x0_0 => .agg #[x0_0]) rfl rfl (fun _ => by kernel_rfl)) ?_
  refine RunL.grows rfl rfl rfl (Grows.alloc rfl Tryz.zeroValue24) (fun b3 _ => ?_)
  refine RunL.does0 rfl rfl (Does.store rfl rfl rfl (i := 0) rfl Tryz.sizeOf24 rfl (rfl) rfl) (fun _ _ => ?_)
  refine RunL.conv (fun _ hs => hs.re 0 rfl (show _ = HL.obj b3 (.cells #[.slice (some ⟨b30, 0, none⟩) 1 1] 24 (0, 0)) from rfl)) ?_
  refine RunL.nil ?_
  refine Ends.then ?_
  refine RunC.seq ?_
  refine RunC.region ?_
  refine RunL.still rfl rfl rfl (Still.loads rfl rfl Tryz.isAgg24 Tryz.sizeOf24 (vs := [_]) rfl (fun _ hs => cells_nth (hs.at (i := 4) rfl) ⟨rfl, trivial⟩)) ?_
  refine RunL.grows rfl rfl rfl (Grows.call (vs := #[_]) rfl rfl Tryz.call26 (fun w hs => gl_Text_one gOne txtOne (some ⟨b16, 0, none⟩) _ 1 w (GluAt.of_ownG (q := (some ⟨b16, 0, none⟩, 1)) (g := gOne) (by decide +kernel) (hs.at (i := 5) rfl)) one_ok one_text (he.sym hs))) (fun _ _ => ?_)
  refine RunL.still rfl rfl rfl (Still.move rfl rfl) ?_
  refine RunL.still rfl rfl rfl (Still.extractN rfl rfl rfl) ?_
  refine RunL.still rfl rfl rfl (Still.extractN rfl rfl rfl) ?_
  refine RunL.still rfl rfl rfl (Still.assign rfl rfl) ?_
  refine RunL.still rfl rfl rfl (Still.assign rfl rfl) ?_
  refine RunL.nil ?_
  refine Ends.then ?_
  refine RunC.seq ?_
  refine RunC.region ?_
  refine RunL.still rfl rfl rfl (Still.loads rfl rfl Tryz.isAgg24 Tryz.sizeOf24 (vs := [_]) rfl (fun _ hs => cells_nth (hs.at (i := 4) rfl) ⟨rfl, trivial⟩)) ?_
  refine RunL.grows rfl rfl rfl (Grows.call (vs := #[_]) rfl rfl Tryz.call15 (fun w hs => gl_Orient_one (some ⟨b16, 0, none⟩) _ 1 w (GluAt.of_ownG (q := (some ⟨b16, 0, none⟩, 1)) (g := gOne) (by decide +kernel) (hs.at (i := 5) rfl)))) (fun b39 _ => ?_)
  refine RunL.still rfl rfl rfl (Still.move rfl rfl) ?_
  refine RunL.still rfl rfl rfl (Still.extractN rfl rfl rfl) ?_
  refine RunL.still rfl rfl rfl (Still.extractN rfl rfl rfl) ?_
  refine RunL.still rfl rfl rfl (Still.extractN rfl rfl rfl) ?_
  refine RunL.still rfl rfl rfl (Still.assign rfl rfl) ?_
  refine RunL.still rfl rfl rfl (Still.assign rfl rfl) ?_
  refine RunL.still rfl rfl rfl (Still.assign rfl rfl) ?_
  refine RunL.nil ?_
  refine Ends.then ?_
  refine RunC.seq ?_
  refine RunC.region ?_
  refine RunL.still rfl rfl rfl (Still.loads rfl rfl Tryz.isAgg24 Tryz.sizeOf24 (vs := [_]) rfl (fun _ hs => cells_nth (hs.at (i := 5) rfl) ⟨rfl, trivial⟩)) ?_
  refine RunL.grows rfl rfl rfl (Grows.call (vs := #[_]) rfl rfl Tryz.call12 (fun w hs => gl_Twofold (some ⟨b16, 0, none⟩) _ 1 gOne w (GluAt.of_ownG (q := (some ⟨b16, 0, none⟩, 1)) (g := gOne) (by decide +kernel) (hs.at (i := 6) rfl)) one_ok (by decide))) (fun q hq => ?_)
  refine RunL.still rfl rfl rfl (Still.move rfl rfl) ?_
  refine RunL.still rfl rfl rfl (Still.extractN rfl rfl rfl) ?_
  refine RunL.still rfl rfl rfl (Still.extractN rfl rfl rfl) ?_
  refine RunL.grows rfl rfl rfl (Grows.alloc rfl Tryz.zeroValue24) (fun b9 _ => ?_)
  refine RunL.does0 rfl rfl (Does.store rfl rfl rfl (i := 0) rfl Tryz.sizeOf24 rfl (rfl) rfl) (fun _ _ => ?_)
  refine RunL.conv (fun _ hs => hs.re 0 rfl (show _ = HL.obj b9 (.cells #[.slice q.1 2 q.2] 24 (0, 0)) from rfl)) ?_
  refine RunL.still rfl rfl rfl (Still.assign rfl rfl) ?_
  refine RunL.nil ?_
  refine Ends.then ?_
  refine RunC.seq ?_
  refine RunC.region ?_
  refine RunL.still rfl rfl rfl (Still.loads rfl rfl Tryz.isAgg24 Tryz.sizeOf24 (vs := [_]) rfl (fun _ hs => cells_nth (hs.at (i := 5) rfl) ⟨rfl, trivial⟩)) ?_
  refine RunL.grows rfl rfl rfl (Grows.call (vs := #[_]) rfl rfl Tryz.call13 (fun w hs => gl_Double (some ⟨b22, 0, none⟩) _ 1 gFree w (GluAt.of_ownG (q := (some ⟨b22, 0, none⟩, 1)) (g := gFree) (by decide +kernel) (hs.at (i := 6) rfl)) free_ok (by decide))) (fun r hr => ?_)
  refine RunL.still rfl rfl rfl (Still.move rfl rfl) ?_
  refine RunL.still rfl rfl rfl (Still.extractN rfl rfl rfl) ?_
  refine RunL.still rfl rfl rfl (Still.extractN rfl rfl rfl) ?_
  refine RunL.grows rfl rfl rfl (Grows.alloc rfl Tryz.zeroValue24) (fun b11 _ => ?_)
  refine RunL.does0 rfl rfl (Does.store rfl rfl rfl (i := 0) rfl Tryz.sizeOf24 rfl (rfl) rfl) (fun _ _ => ?_)
  refine RunL.conv (fun _ hs => hs.re 0 rfl (show _ = HL.obj b11 (.cells #[.slice r.1 2 r.2] 24 (0, 0)) from rfl)) ?_
  refine RunL.still rfl rfl rfl (Still.assign rfl rfl) ?_
  refine RunL.nil ?_
  refine Ends.then ?_
  refine RunC.seq ?_
  refine RunC.seq ?_
  refine RunC.region ?_
  refine RunL.still rfl rfl rfl (Still.move rfl rfl) ?_
  refine RunL.still rfl rfl rfl (Still.neq rfl rfl rfl) ?_
  refine RunL.again (t := 54) (u := .bool false) rfl (rfl) ?_
  refine RunL.still rfl rfl rfl (Still.move rfl rfl) ?_
  refine RunL.still rfl rfl rfl (Still.move rfl rfl) ?_
  refine RunL.still rfl rfl rfl (Still.neq rfl rfl rfl) ?_
  refine RunL.again (t := 57) (u := .bool false) rfl (rfl) ?_
  refine RunL.still rfl rfl rfl (Still.pickF rfl rfl rfl) ?_
  refine RunL.still rfl rfl rfl (Still.move rfl rfl) ?_
  refine RunL.still rfl rfl rfl (Still.move rfl rfl) ?_
  refine RunL.still rfl rfl rfl (Still.neq rfl rfl rfl) ?_
  refine RunL.again (t := 61) (u := .bool false) rfl (rfl) ?_
  refine RunL.still rfl rfl rfl (Still.pickF rfl rfl rfl) ?_
  refine RunL.still rfl rfl rfl (Still.move rfl rfl) ?_
  refine RunL.still rfl rfl rfl (Still.move rfl rfl) ?_
  refine RunL.still rfl rfl rfl (Still.neq rfl rfl rfl) ?_
  refine RunL.again (t := 65) (u := .bool false) rfl (rfl) ?_
  refine RunL.still rfl rfl rfl (Still.pickF rfl rfl rfl) ?_
  refine RunL.still rfl rfl rfl (Still.move rfl rfl) ?_
  refine RunL.still rfl rfl rfl (Still.move rfl rfl) ?_
  refine RunL.still rfl rfl rfl (Still.neqStrD rfl rfl rfl) ?_
  refine RunL.again (t := 69) (u := .bool false) rfl (by rfl) ?_
  refine RunL.still rfl rfl rfl (Still.pickF rfl rfl rfl) ?_
  refine RunL.still rfl rfl rfl (Still.move rfl rfl) ?_
  refine RunL.still rfl rfl rfl (Still.move rfl rfl) ?_
  refine RunL.still rfl rfl rfl (Still.not rfl rfl) ?_
  refine RunL.again (t := 73) (u := .bool false) rfl (rfl) ?_
  refine RunL.still rfl rfl rfl (Still.pickF rfl rfl rfl) ?_
  refine RunL.still rfl rfl rfl (Still.move rfl rfl) ?_
  refine RunL.still rfl rfl rfl (Still.move rfl rfl) ?_
  refine RunL.grows rfl rfl rfl (Grows.slice1 rfl rfl Tryz.underlying36 Tryz.sizeOf3 rfl Tryz.zeroValue3 (by decide)) (fun b77 _ => ?_)
  refine RunL.conv (fun _ hs => Sym.obj_own (k := 1) (n := 1) hs rfl (by omega)) ?_
  refine RunL.grows rfl rfl rfl (Grows.call (vs := #[_, _]) rfl rfl Tryz.call31 (fun w hs => rf_SameInts (.slice (some ⟨b39, 0, none⟩) 1 1) _ [1] [1] w (own_shape (hs.own (i := 5) rfl)) (own_all (hs.own (i := 5) rfl)) (by decide) (own_shape (hs.own (i := 0) rfl)) (own_all (hs.own (i := 0) rfl)) (by decide))) (fun _ _ => ?_)
  refine RunL.still rfl rfl rfl (Still.not rfl rfl) ?_
  refine RunL.again (t := 79) (u := .bool false) rfl (by rfl) ?_
  refine RunL.still rfl rfl rfl (Still.pickF rfl rfl rfl) ?_
  refine RunL.nil ?_
  refine Ends.then ?_
  refine RunC.cond_false rfl ?_
  refine RunC.skip ?_
  refine Ends.then ?_
  refine RunC.seq ?_
  refine RunC.region ?_
  refine RunL.still rfl rfl rfl (Still.loads rfl rfl Tryz.isAgg24 Tryz.sizeOf24 (vs := [_]) rfl (fun _ hs => cells_nth (hs.at (i := 3) rfl) ⟨rfl, trivial⟩)) ?_
  refine RunL.grows rfl rfl rfl (Grows.call (vs := #[_]) rfl rfl Tryz.call26 (fun w hs => gl_Text_one (twoG gOne) txtTwo q.1 _ q.2 w (GluAt.of_ownG (q := q) (g := twoG gOne) (by decide +kernel) (hs.at (i := 4) rfl)) two_ok two_text (he.sym hs))) (fun _ _ => ?_)
  refine RunL.still rfl rfl rfl (Still.move rfl rfl) ?_
  refine RunL.still rfl rfl rfl (Still.extractN rfl rfl rfl) ?_
  refine RunL.still rfl rfl rfl (Still.extractN rfl rfl rfl) ?_
  refine RunL.still rfl rfl rfl (Still.assign rfl rfl) ?_
  refine RunL.still rfl rfl rfl (Still.assign rfl rfl) ?_
  refine RunL.nil ?_
  refine Ends.then ?_
  refine RunC.seq ?_
  refine RunC.region ?_
  refine RunL.still rfl rfl rfl (Still.loads rfl rfl Tryz.isAgg24 Tryz.sizeOf24 (vs := [_]) rfl (fun _ hs => cells_nth (hs.at (i := 1) rfl) ⟨rfl, trivial⟩)) ?_
  refine RunL.grows rfl rfl rfl (Grows.call (vs := #[_]) rfl rfl Tryz.call26 (fun w hs => gl_Text_one (dblG gFree) txtDbl r.1 _ r.2 w (GluAt.of_ownG (q := r) (g := dblG gFree) (by decide +kernel) (hs.at (i := 2) rfl)) dbl_ok dbl_text (he.sym hs))) (fun _ _ => ?_)
  refine RunL.still rfl rfl rfl (Still.move rfl rfl) ?_
  refine RunL.still rfl rfl rfl (Still.extractN rfl rfl rfl) ?_
  refine RunL.still rfl rfl rfl (Still.extractN rfl rfl rfl) ?_
  refine RunL.still rfl rfl rfl (Still.assign rfl rfl) ?_
  refine RunL.still rfl rfl rfl (Still.assign rfl rfl) ?_
  refine RunL.nil ?_
  refine Ends.then ?_
  refine RunC.seq ?_
  refine RunC.region ?_
  refine RunL.still rfl rfl rfl (Still.move rfl rfl) ?_
  refine RunL.grows rfl rfl rfl (Grows.call (vs := #[_]) rfl rfl Tryz.call29 (fun w hs => gl_Parse_one w (he.sym hs))) (fun p hp => ?_)
  refine RunL.still rfl rfl rfl (Still.move rfl rfl) ?_
  refine RunL.still rfl rfl rfl (Still.extractN rfl rfl rfl) ?_
  refine RunL.still rfl rfl rfl (Still.extractN rfl rfl rfl) ?_
  refine RunL.grows rfl rfl rfl (Grows.alloc rfl Tryz.zeroValue24) (fun b15 _ => ?_)
  refine RunL.does0 rfl rfl (Does.store rfl rfl rfl (i := 0) rfl Tryz.sizeOf24 rfl (rfl) rfl) (fun _ _ => ?_)
  refine RunL.conv (fun _ hs => hs.re 0 rfl (show _ = HL.obj b15 (.cells #[.slice p.1 1 p.2] 24 (0, 0)) from rfl)) ?_
  refine RunL.still rfl rfl rfl (Still.assign rfl rfl) ?_
  refine RunL.nil ?_
  refine Ends.then ?_
  refine RunC.seq ?_
  refine RunC.region ?_
  refine RunL.still rfl rfl rfl (Still.move rfl rfl) ?_
  refine RunL.still rfl rfl rfl (Still.eql rfl rfl rfl) ?_
  refine RunL.again (t := 97) (u := .bool true) rfl (rfl) ?_
  refine RunL.still rfl rfl rfl (Still.move rfl rfl) ?_
  refine RunL.still rfl rfl rfl (Still.move rfl rfl) ?_
  refine RunL.still rfl rfl rfl (Still.eql rfl rfl rfl) ?_
  refine RunL.again (t := 100) (u := .bool true) rfl (rfl) ?_
  refine RunL.still rfl rfl rfl (Still.pickT rfl rfl rfl) ?_
  refine RunL.still rfl rfl rfl (Still.move rfl rfl) ?_
  refine RunL.still rfl rfl rfl (Still.move rfl rfl) ?_
  refine RunL.still rfl rfl rfl (Still.eql rfl rfl rfl) ?_
  refine RunL.again (t := 104) (u := .bool true) rfl (rfl) ?_
  refine RunL.still rfl rfl rfl (Still.pickT rfl rfl rfl) ?_
  refine RunL.still rfl rfl rfl (Still.move rfl rfl) ?_
  refine RunL.still rfl rfl rfl (Still.loads rfl rfl Tryz.isAgg24 Tryz.sizeOf24 (vs := [_]) rfl (fun _ hs => cells_nth (hs.at (i := 0) rfl) ⟨rfl, trivial⟩)) ?_
  refine RunL.still rfl rfl rfl (Still.loads rfl rfl Tryz.isAgg24 Tryz.sizeOf24 (vs := [_]) rfl (fun _ hs => cells_nth (hs.at (i := 12) rfl) ⟨rfl, trivial⟩)) ?_
  refine RunL.grows rfl rfl rfl (Grows.call (vs := #[_, _]) rfl rfl Tryz.call27 (fun w hs => gl_Same p.1 _ p.2 gOne (some ⟨b16, 0, none⟩) _ 1 gOne w (GluAt.of_ownG (q := p) (g := gOne) (by decide +kernel) (hs.at (i := 1) rfl)) (GluAt.of_ownG (q := (some ⟨b16, 0, none⟩, 1)) (g := gOne) (by decide +kernel) (hs.at (i := 13) rfl)))) (fun _ _ => ?_)
  refine RunL.again (t := 109) (u := .bool true) rfl (by rfl) ?_
  refine RunL.still rfl rfl rfl (Still.pickT rfl rfl rfl) ?_
  refine RunL.still rfl rfl rfl (Still.move rfl rfl) ?_
  refine RunL.still rfl rfl rfl (Still.move rfl rfl) ?_
  refine RunL.still rfl rfl rfl (Still.eqlStrD rfl rfl rfl) ?_
  refine RunL.again (t := 113) (u := .bool true) rfl (by rfl) ?_
  refine RunL.still rfl rfl rfl (Still.pickT rfl rfl rfl) ?_
  refine RunL.still rfl rfl rfl (Still.move rfl rfl) ?_
  refine RunL.still rfl rfl rfl (Still.move rfl rfl) ?_
  refine RunL.still rfl rfl rfl (Still.eqlStrD rfl rfl rfl) ?_
  refine RunL.again (t := 117) (u := .bool true) rfl (by rfl) ?_
  refine RunL.still rfl rfl rfl (Still.pickT rfl rfl rfl) ?_
  refine RunL.still rfl rfl rfl (Still.move rfl rfl) ?_
  refine RunL.still rfl rfl rfl (Still.loads rfl rfl Tryz.isAgg24 Tryz.sizeOf24 (vs := [_]) rfl (fun _ hs => cells_nth (hs.at (i := 8) rfl) ⟨rfl, trivial⟩)) ?_
  refine RunL.grows rfl rfl rfl (Grows.call (vs := #[_]) rfl rfl Tryz.call14 (fun w hs => gl_Check (some ⟨b30, 0, none⟩) _ 1 gBad w (GluAt.of_ownG (q := (some ⟨b30, 0, none⟩, 1)) (g := gBad) (by decide +kernel) (hs.at (i := 9) rfl)))) (fun _ _ => ?_)
  refine RunL.still rfl rfl rfl (Still.eql rfl rfl rfl) ?_
  refine RunL.again (t := 122) (u := .bool true) rfl (congrArg Value.bool (decide_eq_true (chkG_bad bad_no))) ?_
  refine RunL.still rfl rfl rfl (Still.pickT rfl rfl rfl) ?_
  refine RunL.still rfl rfl rfl (Still.move rfl rfl) ?_
  refine RunL.still rfl rfl rfl (Still.loads rfl rfl Tryz.isAgg24 Tryz.sizeOf24 (vs := [_]) rfl (fun _ hs => cells_nth (hs.at (i := 12) rfl) ⟨rfl, trivial⟩)) ?_
  refine RunL.grows rfl rfl rfl (Grows.call (vs := #[_]) rfl rfl Tryz.call14 (fun w hs => gl_Check (some ⟨b16, 0, none⟩) _ 1 gOne w (GluAt.of_ownG (q := (some ⟨b16, 0, none⟩, 1)) (g := gOne) (by decide +kernel) (hs.at (i := 13) rfl)))) (fun _ _ => ?_)
  refine RunL.still rfl rfl rfl (Still.eql rfl rfl rfl) ?_
  refine RunL.again (t := 127) (u := .bool true) rfl (congrArg Value.bool (decide_eq_true (chkG_ok one_ok))) ?_
  refine RunL.still rfl rfl rfl (Still.pickT rfl rfl rfl) ?_
  refine RunL.still rfl rfl rfl (Still.move rfl rfl) ?_
  refine RunL.still rfl rfl rfl (Still.build_1_1_1_1 (fun x0_0 x1_0 x2_0 x3_0 => .agg #[x0_0, x1_0, x2_0, x3_0]) rfl rfl rfl rfl rfl (fun _ => by kernel_rfl)) ?_
  refine RunL.still rfl rfl rfl (Still.build_1_1_1_1 (fun x0_0 x1_0 x2_0 x3_0 => .agg #[x0_0, x1_0, x2_0, x3_0]) rfl rfl rfl rfl rfl (fun _ => by kernel_rfl)) ?_
  refine RunL.grows rfl rfl rfl (Grows.call (vs := #[_, _]) rfl rfl Tryz.call41 (fun w hs => gl_Compose ⟨1, 2, 3, 0⟩ ⟨1, 0, 2, 3⟩ w)) (fun _ _ => ?_)
  refine RunL.still rfl rfl rfl (Still.build_1_1_1_1 (fun x0_0 x1_0 x2_0 x3_0 => .agg #[x0_0, x1_0, x2_0, x3_0]) rfl rfl rfl rfl rfl (fun _ => by kernel_rfl)) ?_
  refine RunL.still rfl rfl rfl (Still.eqlAgg rfl rfl rfl Tryz.eqGuardType32 (fun _ => eqP _ _ _ _ _ _ _ _ _ _)) ?_
  refine RunL.again (t := 134) (u := .bool true) rfl (congrArg Value.bool (by decide +kernel)) ?_
  refine RunL.still rfl rfl rfl (Still.pickT rfl rfl rfl) ?_
  refine RunL.still rfl rfl rfl (Still.move rfl rfl) ?_
  refine RunL.still rfl rfl rfl (Still.build_1_1_1_1 (fun x0_0 x1_0 x2_0 x3_0 => .agg #[x0_0, x1_0, x2_0, x3_0]) rfl rfl rfl rfl rfl (fun _ => by kernel_rfl)) ?_
  refine RunL.grows rfl rfl rfl (Grows.call (vs := #[_]) rfl rfl Tryz.call42 (fun w hs => gl_Sign ⟨1, 0, 2, 3⟩ w)) (fun _ _ => ?_)
  refine RunL.still rfl rfl rfl (Still.eql rfl rfl rfl) ?_
  refine RunL.again (t := 139) (u := .bool true) rfl (congrArg Value.bool (by decide +kernel)) ?_
  refine RunL.still rfl rfl rfl (Still.pickT rfl rfl rfl) ?_
  refine RunL.still rfl rfl rfl (Still.move rfl rfl) ?_
  refine RunL.still rfl rfl rfl (Still.build_1_1_1_1 (fun x0_0 x1_0 x2_0 x3_0 => .agg #[x0_0, x1_0, x2_0, x3_0]) rfl rfl rfl rfl rfl (fun _ => by kernel_rfl)) ?_
  refine RunL.grows rfl rfl rfl (Grows.call (vs := #[_]) rfl rfl Tryz.call42 (fun w hs => gl_Sign ⟨1, 2, 0, 3⟩ w)) (fun _ _ => ?_)
  refine RunL.still rfl rfl rfl (Still.eql rfl rfl rfl) ?_
  refine RunL.again (t := 144) (u := .bool true) rfl (congrArg Value.bool (by decide +kernel)) ?_
  refine RunL.still rfl rfl rfl (Still.pickT rfl rfl rfl) ?_
  refine RunL.still rfl rfl rfl (Still.move rfl rfl) ?_
  refine RunL.still rfl rfl rfl (Still.build_1_1_1_1 (fun x0_0 x1_0 x2_0 x3_0 => .agg #[x0_0, x1_0, x2_0, x3_0]) rfl rfl rfl rfl rfl (fun _ => by kernel_rfl)) ?_
  refine RunL.grows rfl rfl rfl (Grows.call (vs := #[_]) rfl rfl Tryz.call43 (fun w hs => gl_Valid ⟨1, 2, 0, 3⟩ w)) (fun _ _ => ?_)
  refine RunL.again (t := 148) (u := .bool true) rfl (congrArg Value.bool (by decide +kernel)) ?_
  refine RunL.still rfl rfl rfl (Still.pickT rfl rfl rfl) ?_
  refine RunL.still rfl rfl rfl (Still.assign rfl rfl) ?_
  refine RunL.nil ?_
  refine Ends.then ?_
  refine RunC.ret ?_
  refine Ends.leave (.inl rfl) (fun _ _ ok => results1 Tryz.results9 (Holds.tmp rfl) ok) (fun w1 hs => ?_)
  exact Ret.intro () trivial rfl (HSub.nil _) hs

end Go.Proofs
/- The statement GlueMakes: the walk. -/
namespace Go.Proofs
open Go Go.V
set_option maxRecDepth 20000
theorem gives_none {n : Nat} {args : Array Value} {w : World} {e : Int} (h : Gives Tryz.prog n args w Nil (fun _ : Unit => True) (fun _ => .tuple #[.agg #[.slice none 0 0], iv e]) (fun _ => [])) :
    Gives Tryz.prog n args w Nil (fun q : Option Addr × Nat => OKB q ([] : Glu).length) (fun q => .tuple #[gluV q.1 q.2 [], iv e]) (fun q => [ownG q []]) := by
  refine Calls.mono h ?_
  rintro e w' ⟨_, _, he, hs⟩
  exact ⟨(none, 0), fun h => absurd h (by decide), he, hs.own_nil 35 20⟩
def renA (g : Glu) (xs : List Int) (ps : List P4) : Glu × Int := if okG g then (if ordG xs ps g.length then (renG g xs ps, 0) else ([], 1)) else ([], 7)
def uniA (a b : Glu) : Glu × Int := if okG a && okG b then (uniG a b, 0) else ([], 7)
def twoA (g : Glu) : Glu × Int := if okG g then (twoG g, 0) else ([], 7)
def dblA (g : Glu) : Glu × Int := if okG g then (dblG g, 0) else ([], 7)
abbrev Made (n : Nat) (args : Array Value) (w : World) (r : Glu × Int) : Prop := Gives Tryz.prog n args w Nil (fun q : Option Addr × Nat => OKB q r.1.length) (fun q => .tuple #[gluV q.1 q.2 r.1, iv r.2]) (fun q => [ownG q r.1])
theorem gl_RenumberA (base : Option Addr) (A : Addr) (cap : Nat) (g : Glu) (xb : Option Addr) (XA : Addr) (xc : Nat) (xs : List Int) (pb : Option Addr) (PA : Addr) (pc : Nat) (ps : List P4) (w : World) (hg : GluAt w base A g) (hx : LisAt w xb XA xs) (hp : PermsAt w pb PA ps) : Made 19 #[gluV base cap g, lisV xb xc xs, prmV pb pc ps] w (renA g xs ps) := by
  rw [renA]
  by_cases hok : okG g = true
  · rw [if_pos hok]
    by_cases ho : ordG xs ps g.length = true
    · rw [if_pos ho]; exact gl_Renumber base A cap g xb XA xc xs pb PA pc ps w hg hx hp hok ho
    · rw [if_neg ho]; exact gives_none (gl_Renumber_arg base A cap g xb XA xc xs pb PA pc ps w hg hx hp hok (by simpa using ho))
  · rw [if_neg hok]; exact gives_none (gl_Renumber_bad base A cap g xb xc xs pb pc ps w hg (by simpa using hok))
theorem gl_TwofoldA (base : Option Addr) (A : Addr) (cap : Nat) (g : Glu) (w : World) (hg : GluAt w base A g) (hl : g.length ≤ 12) : Made 12 #[gluV base cap g] w (twoA g) := by
  rw [twoA]
  by_cases hok : okG g = true
  · rw [if_pos hok]; exact gl_Twofold base A cap g w hg hok (by omega)
  · rw [if_neg hok]; exact gives_none (gl_Twofold_bad base A cap g w hg (by simpa using hok))
theorem gl_DoubleA (base : Option Addr) (A : Addr) (cap : Nat) (g : Glu) (w : World) (hg : GluAt w base A g) (hl : g.length ≤ 12) : Made 13 #[gluV base cap g] w (dblA g) := by
  rw [dblA]
  by_cases hok : okG g = true
  · rw [if_pos hok]; exact gl_Double base A cap g w hg hok (by omega)
  · rw [if_neg hok]; exact gives_none (gl_Double_bad base A cap g w hg (by simpa using hok))
theorem gl_UnionA (ba : Option Addr) (A : Addr) (ca : Nat) (a : Glu) (bb : Option Addr) (B : Addr) (cb : Nat) (b : Glu) (w : World) (hga : GluAt w ba A a) (hgb : GluAt w bb B b) (h1 : a.length ≤ 12) (h2 : b.length ≤ 12) : Made 22 #[gluV ba ca a, gluV bb cb b] w (uniA a b) := by
  rw [uniA]
  by_cases hok : (okG a && okG b) = true
  · rw [if_pos hok]
    rw [Bool.and_eq_true] at hok
    exact gl_Union_ok ba A ca a bb B cb b w hga hgb hok.1 hok.2 (by omega)
  · rw [if_neg hok]; exact gives_none (gl_Union_bad ba A ca a bb B cb b w hga hgb (fun h => hok (by rw [h.1, h.2]; rfl)))
theorem lw_small2 (b : Nat) (b1 b2 : Option Addr) (c1 c2 n1 n2 : Nat) (w : World) (hc : Cells w ⟨b, 0, none⟩ [.slice b1 n1 c1, .slice b2 n2 c2]) : Gives Tryz.prog 10 #[.slice (some ⟨b, 0, none⟩) 2 2] w Nil (fun _ : Unit => True) (fun _ => .bool (decide (n1 ≤ 12) && decide (n2 ≤ 12))) (fun _ => []) := by
  have h := lw_small b [n1, n2] [.slice b1 n1 c1, .slice b2 n2 c2] w hc rfl (fun i n hi => by
    match i with
    | 0 => exact ⟨b1, c1, by simp at hi ⊢; omega⟩
    | 1 => exact ⟨b2, c2, by simp at hi ⊢; omega⟩
    | i + 2 => simp at hi) (by simp)
  simpa using h
end Go.Proofs
/- A part of a gluing, renumbered by a map. -/
namespace Go.V
open Go
def numV (l : List Int) (k : Int) (u : Int) : Int := if l.getD u.toNat 0 = k then rankP l k u.toNat else 0
def numM (l : List Int) (k : Int) (x : Fc) : Fc := if 0 ≤ x.tet then ⟨numV l k x.tet, x.p⟩ else x
def mpTo (l : List Int) (k : Int) : Nat → List (Int × Value)
  | 0 => []
  | t + 1 => if l.getD t 0 = k then mpTo l k t ++ [((t : Int), iv (rankP l k t))] else mpTo l k t
theorem rankP_succ {l : List Int} {k : Int} {t : Nat} (ht : t < l.length) : rankP l k (t + 1) = rankP l k t + if l.getD t 0 = k then 1 else 0 := by
  have h := getD_get' ht
  generalize l.getD t 0 = y at h ⊢
  rw [rankP, List.take_add_one, h, List.filter_append, List.length_append, rankP]
  congr 1
  by_cases e : y = k <;> simp [e]
theorem mpTo_len {l : List Int} {k : Int} : ∀ t, t ≤ l.length → (mpTo l k t).length = rankP l k t
  | 0, _ => by simp [mpTo, rankP]
  | t + 1, ht => by
    rw [mpTo, rankP_succ (by omega), ← mpTo_len t (by omega)]
    split <;> simp
theorem mget_append {κ : Type} [DecidableEq κ] (l : List (κ × Value)) (k k' : κ) (v : Value) (h : mget l k = none) : mget (l ++ [(k, v)]) k' = if k = k' then some v else mget l k' := by
  rw [← mput_new h, mget_mput]
theorem mpTo_none {l : List Int} {k : Int} : ∀ t u, t ≤ u → mget (mpTo l k t) (u : Int) = none
  | 0, _, _ => rfl
  | t + 1, u, h => by
    rw [mpTo]
    split
    · rw [mget_append _ _ _ _ (mpTo_none t t (Nat.le_refl t)), if_neg (by omega)]
      exact mpTo_none t u (by omega)
    · exact mpTo_none t u (by omega)
theorem mpTo_get {l : List Int} {k : Int} : ∀ t u, u < t → mget (mpTo l k t) (u : Int) = if l.getD u 0 = k then some (iv (rankP l k u)) else none
  | 0, _, h => absurd h (Nat.not_lt_zero _)
  | t + 1, u, h => by
    rw [mpTo]
    rcases Nat.lt_or_ge u t with h1 | h1
    · have ih := mpTo_get (l := l) (k := k) t u h1
      split
      · rw [mget_append _ _ _ _ (mpTo_none t t (Nat.le_refl t)), if_neg (by omega)]; exact ih
      · exact ih
    · obtain rfl : u = t := by omega
      by_cases e : l.getD u 0 = k
      · rw [if_pos e, if_pos e, mget_append _ _ _ _ (mpTo_none u u (Nat.le_refl u)), if_pos rfl]
      · rw [if_neg e, if_neg e]; exact mpTo_none u u (Nat.le_refl u)
theorem mpTo_put {l : List Int} {k : Int} {t : Nat} (ht : t < l.length) (h : l.getD t 0 = k) : mput (mpTo l k t) (t : Int) (.int .i64 ((mpTo l k t).length : Nat)) = mpTo l k (t + 1) := by
  rw [mput_new (mpTo_none t t (Nat.le_refl t)), mpTo_len t (by omega), mpTo, if_pos h]
theorem mpTo_skip {l : List Int} {k : Int} {t : Nat} (h : ¬ l.getD t 0 = k) : mpTo l k (t + 1) = mpTo l k t := by rw [mpTo, if_neg h]
theorem mpTo_val {l : List Int} {k : Int} {n : Nat} {u : Int} (h0 : 0 ≤ u) (h : u < n) : (mget (mpTo l k n) u).getD (.int .i64 0) = iv (numV l k u) := by
  have e := mpTo_get (l := l) (k := k) n u.toNat (by omega)
  rw [show ((u.toNat : Nat) : Int) = u by omega] at e
  rw [e, numV]
  split <;> rfl
def partL (g : Glu) (l : List Int) (k : Int) : Nat → Glu
  | 0 => []
  | t + 1 => if l.getD t 0 = k then partL g l k t ++ [mapF (tAt g t) (numM l k)] else partL g l k t
def partM (g : Glu) (k : Int) : Glu := partL g (partsOf g) k g.length
theorem partL_len {g : Glu} {l : List Int} {k : Int} : ∀ t, (partL g l k t).length ≤ t
  | 0 => Nat.le_refl _
  | t + 1 => by
    have := partL_len (g := g) (l := l) (k := k) t
    rw [partL]; split
    · rw [List.length_append]; simp; omega
    · omega
theorem cellsAt_ttA (t : Tt) : CellsAt (ttA t).toList 0 [iv t.f0.tet, iv t.f0.p.a0, iv t.f0.p.a1, iv t.f0.p.a2, iv t.f0.p.a3, iv t.f1.tet, iv t.f1.p.a0, iv t.f1.p.a1, iv t.f1.p.a2, iv t.f1.p.a3, iv t.f2.tet, iv t.f2.p.a0, iv t.f2.p.a1, iv t.f2.p.a2, iv t.f2.p.a3, iv t.f3.tet, iv t.f3.p.a0, iv t.f3.p.a1, iv t.f3.p.a2, iv t.f3.p.a3] :=
  ⟨rfl, rfl, rfl, rfl, rfl, rfl, rfl, rfl, rfl, rfl, rfl, rfl, rfl, rfl, rfl, rfl, rfl, rfl, rfl, rfl, trivial⟩
theorem partL_yes {g : Glu} {l : List Int} {k : Int} {t : Nat} (h : l.getD t 0 = k) : partL g l k (t + 1) = partL g l k t ++ [mapF (tAt g t) (numM l k)] := by rw [partL, if_pos h]
theorem partL_no {g : Glu} {l : List Int} {k : Int} {t : Nat} (h : ¬ l.getD t 0 = k) : partL g l k (t + 1) = partL g l k t := by rw [partL, if_neg h]
theorem numM_pos {l : List Int} {k : Int} {x : Fc} (h : 0 ≤ x.tet) : numM l k x = ⟨numV l k x.tet, x.p⟩ := if_pos h
theorem numM_neg {l : List Int} {k : Int} {x : Fc} (h : ¬ 0 ≤ x.tet) : numM l k x = x := if_neg h
end Go.V
/- A part of a gluing: contracts of the program. -/
namespace Go.Proofs
open Go Go.V
set_option maxRecDepth 20000
theorem mk3 : MKey Tryz.prog 3 encI := MKey.int Tryz.underlying3

theorem gl_Part_bad (base : Option Addr) (A : Addr) (cap : Nat) (g : Glu) (k : Int) (w : World) (hg : GluAt w base A g) (hok : okG g = false) : Gives Tryz.prog 33 #[gluV base cap g, iv k] w Nil (fun _ : Unit => True) (fun _ => .tuple #[.agg #[.slice none 0 0], iv 7]) (fun _ => []) := by
  refine fn_of_run (S := Nil) (args := [gluV base cap g, iv k]) (n := 92) (L := []) Tryz.func33 rfl Tryz.ntmps33 (Nat.le_of_ble_eq_true rfl) (Sym.nil _ _) ?_
  change RunC _ _ _ [(0, _), (1, _)] _
  refine RunC.seq ?_
  refine RunC.region ?_
  refine RunL.grows rfl rfl rfl (Grows.box rfl rfl) (fun b2 _ => ?_)
  refine RunL.grows rfl rfl rfl (Grows.alloc rfl Tryz.zeroValue24) (fun b4 _ => ?_)
  refine RunL.still rfl rfl rfl (Still.assign rfl rfl) ?_
  refine RunL.nil ?_
  refine Ends.then ?_
  refine RunC.seq ?_
  refine RunC.seq ?_
  refine RunC.region ?_
  refine RunL.still rfl rfl rfl (Still.loads rfl rfl Tryz.isAgg24 Tryz.sizeOf24 (vs := [_]) rfl (fun _ hs => cells_nth (hs.at (i := 1) rfl) ⟨rfl, trivial⟩)) ?_
  refine RunL.grows rfl rfl rfl (Grows.call (vs := #[_]) rfl rfl Tryz.call14 (fun w hs => gl_Check base A cap g w (hg.sym hs))) (fun _ _ => ?_)
  refine RunL.still rfl rfl rfl (Still.assign rfl rfl) ?_
  refine RunL.nil ?_
  refine Ends.then ?_
  refine RunC.seq ?_
  refine RunC.region ?_
  refine RunL.still rfl rfl rfl (Still.move rfl rfl) ?_
  refine RunL.still rfl rfl rfl (Still.neq rfl rfl rfl) ?_
  refine RunL.nil ?_
  refine Ends.then ?_
  refine RunC.cond rfl (fun h21 => ?_) (fun h21 => ?_)
  · have h21 := of_decide_eq_true h21
    refine RunC.seq ?_
    refine RunC.region ?_
    refine RunL.still rfl rfl rfl (Still.build_0 (.agg #[.slice none 0 0]) rfl (fun _ => by kernel_rfl)) ?_
    refine RunL.still rfl rfl rfl (Still.move rfl rfl) ?_
    refine RunL.does0 rfl rfl (Does.store rfl rfl rfl (i := 0) rfl Tryz.sizeOf24 rfl (rfl) rfl) (fun _ _ => ?_)
    refine RunL.still rfl rfl rfl (Still.assign rfl rfl) ?_
    refine RunL.nil ?_
    refine Ends.then ?_
    refine RunC.ret ?_
    refine Ends.then_ret ?_
    refine Ends.leave (.inl rfl) (fun _ _ ok => results2 Tryz.results33 (Holds.cell rfl (fun _ hs => load_cells (vs := [_]) Tryz.isAgg24 Tryz.sizeOf24 rfl (cells_nth (hs.at (i := 0) rfl) ⟨rfl, trivial⟩))) (Holds.tmp rfl) ok) (fun w1 hs => ?_)
    exact Ret.intro () trivial (by rw [chkG_bad hok]) (HSub.nil _) hs
  · have h21 := of_decide_eq_false h21
    exact absurd (chkG_bad hok) (by rw [Decidable.not_not.1 h21]; decide)

theorem gl_Part_arg (base : Option Addr) (A : Addr) (cap : Nat) (g : Glu) (k : Int) (w : World) (hg : GluAt w base A g) (hok : okG g = true) (hk : k < 0 ∨ partsN g ≤ k) : Gives Tryz.prog 33 #[gluV base cap g, iv k] w Nil (fun _ : Unit => True) (fun _ => .tuple #[.agg #[.slice none 0 0], iv 1]) (fun _ => []) := by
  refine fn_of_run (S := Nil) (args := [gluV base cap g, iv k]) (n := 92) (L := []) Tryz.func33 rfl Tryz.ntmps33 (Nat.le_of_ble_eq_true rfl) (Sym.nil _ _) ?_
  change RunC _ _ _ [(0, _), (1, _)] _
  refine RunC.seq ?_
  refine RunC.region ?_
  refine RunL.grows rfl rfl rfl (Grows.box rfl rfl) (fun b2 _ => ?_)
  refine RunL.grows rfl rfl rfl (Grows.alloc rfl Tryz.zeroValue24) (fun b4 _ => ?_)
  refine RunL.still rfl rfl rfl (Still.assign rfl rfl) ?_
  refine RunL.nil ?_
  refine Ends.then ?_
  refine RunC.seq ?_
  refine RunC.seq ?_
  refine RunC.region ?_
  refine RunL.still rfl rfl rfl (Still.loads rfl rfl Tryz.isAgg24 Tryz.sizeOf24 (vs := [_]) rfl (fun _ hs => cells_nth (hs.at (i := 1) rfl) ⟨rfl, trivial⟩)) ?_
  refine RunL.grows rfl rfl rfl (Grows.call (vs := #[_]) rfl rfl Tryz.call14 (fun w hs => gl_Check base A cap g w (hg.sym hs))) (fun _ _ => ?_)
  refine RunL.still rfl rfl rfl (Still.assign rfl rfl) ?_
  refine RunL.nil ?_
  refine Ends.then ?_
  refine RunC.seq ?_
  refine RunC.region ?_
  refine RunL.still rfl rfl rfl (Still.move rfl rfl) ?_
  refine RunL.still rfl rfl rfl (Still.neq rfl rfl rfl) ?_
  refine RunL.nil ?_
  refine Ends.then ?_
  refine RunC.cond rfl (fun h21 => ?_) (fun h21 => ?_)
  · have h21 := of_decide_eq_true h21
    exact absurd (chkG_ok hok) h21
  · have h21 := of_decide_eq_false h21
    refine RunC.skip ?_
    refine Ends.then ?_
    refine RunC.seq ?_
    refine RunC.region ?_
    refine RunL.still rfl rfl rfl (Still.loads rfl rfl Tryz.isAgg24 Tryz.sizeOf24 (vs := [_]) rfl (fun _ hs => cells_nth (hs.at (i := 1) rfl) ⟨rfl, trivial⟩)) ?_
    refine RunL.grows rfl rfl rfl (Grows.call (vs := #[_]) rfl rfl Tryz.call49 (fun w hs => gl_parts base A cap g w (hg.sym hs) hok)) (fun pb _ => ?_)
    refine RunL.still rfl rfl rfl (Still.move rfl rfl) ?_
    refine RunL.still rfl rfl rfl (Still.extractN rfl rfl rfl) ?_
    refine RunL.still rfl rfl rfl (Still.extractN rfl rfl rfl) ?_
    refine RunL.still rfl rfl rfl (Still.assign rfl rfl) ?_
    refine RunL.still rfl rfl rfl (Still.assign rfl rfl) ?_
    refine RunL.nil ?_
    refine Ends.then ?_
    refine RunC.seq ?_
    refine RunC.seq ?_
    refine RunC.region ?_
    refine RunL.still rfl rfl rfl (Still.move rfl rfl) ?_
    refine RunL.still rfl rfl rfl (Still.lss rfl rfl rfl) ?_
    refine RunL.still rfl rfl rfl (Still.move rfl rfl) ?_
    refine RunL.split (t := 31) rfl (fun h31 => ?_) (fun h31 => ?_)
    · have h31 := of_decide_eq_true h31
      refine RunL.off rfl rfl rfl ?_
      refine RunL.off rfl rfl rfl ?_
      refine RunL.off rfl rfl rfl ?_
      refine RunL.still rfl rfl rfl (Still.pickT rfl rfl rfl) ?_
      refine RunL.nil ?_
      refine Ends.then ?_
      refine RunC.cond_true rfl ?_
      refine RunC.seq ?_
      refine RunC.region ?_
      refine RunL.still rfl rfl rfl (Still.build_0 (.agg #[.slice none 0 0]) rfl (fun _ => by kernel_rfl)) ?_
      refine RunL.does0 rfl rfl (Does.store rfl rfl rfl (i := 1) rfl Tryz.sizeOf24 rfl (rfl) rfl) (fun _ _ => ?_)
      refine RunL.still rfl rfl rfl (Still.assign rfl rfl) ?_
      refine RunL.nil ?_
      refine Ends.then ?_
      refine RunC.ret ?_
      refine Ends.then_ret ?_
      refine Ends.leave (.inl rfl) (fun _ _ ok => results2 Tryz.results33 (Holds.cell rfl (fun _ hs => load_cells (vs := [_]) Tryz.isAgg24 Tryz.sizeOf24 rfl (cells_nth (hs.at (i := 1) rfl) ⟨rfl, trivial⟩))) (Holds.tmp rfl) ok) (fun w1 hs => ?_)
      exact Ret.intro () trivial rfl (HSub.nil _) hs
    · have h31 := of_decide_eq_false h31
      refine RunL.still rfl rfl rfl (Still.move rfl rfl) ?_
      refine RunL.still rfl rfl rfl (Still.move rfl rfl) ?_
      refine RunL.still rfl rfl rfl (Still.geq rfl rfl rfl) ?_
      refine RunL.still rfl rfl rfl (Still.pickF rfl rfl rfl) ?_
      refine RunL.nil ?_
      refine Ends.then ?_
      refine RunC.cond rfl (fun h35 => ?_) (fun h35 => ?_)
      · have h35 := of_decide_eq_true h35
        refine RunC.seq ?_
        refine RunC.region ?_
        refine RunL.still rfl rfl rfl (Still.build_0 (.agg #[.slice none 0 0]) rfl (fun _ => by kernel_rfl)) ?_
        refine RunL.does0 rfl rfl (Does.store rfl rfl rfl (i := 1) rfl Tryz.sizeOf24 rfl (rfl) rfl) (fun _ _ => ?_)
        refine RunL.still rfl rfl rfl (Still.assign rfl rfl) ?_
        refine RunL.nil ?_
        refine Ends.then ?_
        refine RunC.ret ?_
        refine Ends.then_ret ?_
        refine Ends.leave (.inl rfl) (fun _ _ ok => results2 Tryz.results33 (Holds.cell rfl (fun _ hs => load_cells (vs := [_]) Tryz.isAgg24 Tryz.sizeOf24 rfl (cells_nth (hs.at (i := 1) rfl) ⟨rfl, trivial⟩))) (Holds.tmp rfl) ok) (fun w2 hs => ?_)
        exact Ret.intro () trivial rfl (HSub.nil _) hs
      · have h35 := of_decide_eq_false h35
        omega

theorem gl_Part (base : Option Addr) (A : Addr) (cap : Nat) (g : Glu) (k : Int) (w : World) (hg : GluAt w base A g) (hok : okG g = true) (hk : 0 ≤ k ∧ k < partsN g) (hpl : (partsOf g).length = g.length) : Gives Tryz.prog 33 #[gluV base cap g, iv k] w Nil (fun q : Option Addr × Nat => OKB q (partM g k).length) (fun q => .tuple #[gluV q.1 q.2 (partM g k), iv 0]) (fun q => [ownG q (partM g k)]) := by
  have hlen := hg.len
  have h1000 := okG_len hok
  refine fn_of_run (S := Nil) (args := [gluV base cap g, iv k]) (n := 92) (L := []) Tryz.func33 rfl Tryz.ntmps33 (Nat.le_of_ble_eq_true rfl) (Sym.nil _ _) ?_
  change RunC _ _ _ [(0, _), (1, _)] _
  refine RunC.seq ?_
  refine RunC.region ?_
  refine RunL.grows rfl rfl rfl (Grows.box rfl rfl) (fun b2 _ => ?_)
  refine RunL.grows rfl rfl rfl (Grows.alloc rfl Tryz.zeroValue24) (fun b4 _ => ?_)
  refine RunL.still rfl rfl rfl (Still.assign rfl rfl) ?_
  refine RunL.nil ?_
  refine Ends.then ?_
  refine RunC.seq ?_
  refine RunC.seq ?_
  refine RunC.region ?_
  refine RunL.still rfl rfl rfl (Still.loads rfl rfl Tryz.isAgg24 Tryz.sizeOf24 (vs := [_]) rfl (fun _ hs => cells_nth (hs.at (i := 1) rfl) ⟨rfl, trivial⟩)) ?_
  refine RunL.grows rfl rfl rfl (Grows.call (vs := #[_]) rfl rfl Tryz.call14 (fun w hs => gl_Check base A cap g w (hg.sym hs))) (fun _ _ => ?_)
  refine RunL.still rfl rfl rfl (Still.assign rfl rfl) ?_
  refine RunL.nil ?_
  refine Ends.then ?_
  refine RunC.seq ?_
  refine RunC.region ?_
  refine RunL.still rfl rfl rfl (Still.move rfl rfl) ?_
  refine RunL.still rfl rfl rfl (Still.neq rfl rfl rfl) ?_
  refine RunL.nil ?_
  refine Ends.then ?_
  refine RunC.cond rfl (fun h21 => ?_) (fun h21 => ?_)
  · have h21 := of_decide_eq_true h21
    exact absurd (chkG_ok hok) h21
  · have h21 := of_decide_eq_false h21
    refine RunC.skip ?_
    refine Ends.then ?_
    refine RunC.seq ?_
    refine RunC.region ?_
    refine RunL.still rfl rfl rfl (Still.loads rfl rfl Tryz.isAgg24 Tryz.sizeOf24 (vs := [_]) rfl (fun _ hs => cells_nth (hs.at (i := 1) rfl) ⟨rfl, trivial⟩)) ?_
    refine RunL.grows rfl rfl rfl (Grows.call (vs := #[_]) rfl rfl Tryz.call49 (fun w hs => gl_parts base A cap g w (hg.sym hs) hok)) (fun pb _ => ?_)
    refine RunL.still rfl rfl rfl (Still.move rfl rfl) ?_
    refine RunL.still rfl rfl rfl (Still.extractN rfl rfl rfl) ?_
    refine RunL.still rfl rfl rfl (Still.extractN rfl rfl rfl) ?_
    refine RunL.still rfl rfl rfl (Still.assign rfl rfl) ?_
    refine RunL.still rfl rfl rfl (Still.assign rfl rfl) ?_
    refine RunL.nil ?_
    refine Ends.then ?_
    refine RunC.seq ?_
    refine RunC.seq ?_
    refine RunC.region ?_
    refine RunL.still rfl rfl rfl (Still.move rfl rfl) ?_
    refine RunL.still rfl rfl rfl (Still.lss rfl rfl rfl) ?_
    refine RunL.still rfl rfl rfl (Still.move rfl rfl) ?_
    refine RunL.split (t := 31) rfl (fun h31 => ?_) (fun h31 => ?_)
    · have h31 := of_decide_eq_true h31
      omega
    · have h31 := of_decide_eq_false h31
      refine RunL.still rfl rfl rfl (Still.move rfl rfl) ?_
      refine RunL.still rfl rfl rfl (Still.move rfl rfl) ?_
      refine RunL.still rfl rfl rfl (Still.geq rfl rfl rfl) ?_
      refine RunL.still rfl rfl rfl (Still.pickF rfl rfl rfl) ?_
      refine RunL.nil ?_
      refine Ends.then ?_
      refine RunC.cond rfl (fun h35 => ?_) (fun h35 => ?_)
      · have h35 := of_decide_eq_true h35
        omega
      · have h35 := of_decide_eq_false h35
        refine RunC.skip ?_
        refine Ends.then ?_
        refine RunC.seq ?_
        refine RunC.region ?_
        refine RunL.grows rfl rfl rfl (Grows.makeMapK encI rfl) (fun b37 _ => ?_)
        refine RunL.still rfl rfl rfl (Still.assign rfl rfl) ?_
        refine RunL.nil ?_
        refine Ends.then ?_
        refine RunC.seq ?_
        refine RunC.seq ?_
        refine RunC.region ?_
        refine RunL.still rfl rfl rfl (Still.move rfl rfl) ?_
        refine RunL.still rfl rfl rfl (Still.lenOwn rfl rfl Tryz.underlying36 (fun _ hs => hs.own (i := 1) rfl)) ?_
        refine RunL.still rfl rfl rfl (Still.move rfl rfl) ?_
        refine RunL.nil ?_
        refine Ends.then ?_
        refine RunC.block ?_
        refine RunC.loop2 (γ := Nat) (keep := [(1, _), (2, _), (4, _), (7, _), (9, _), (38, _), (39, _)]) (hkeep := [_, _, _]) (fun t => t ≤ g.length) (fun t => g.length - t) (fun t => [(40, iv t)]) (fun t => [HL.mp b37 encI (mpTo (partsOf g) k t)]) 0 (by omega) (Fr.Sub.cons rfl (Fr.Sub.nil _)) (Fr.Sub.cons rfl (Fr.Sub.cons rfl (Fr.Sub.cons rfl (Fr.Sub.cons rfl (Fr.Sub.cons rfl (Fr.Sub.cons rfl (Fr.Sub.cons rfl (Fr.Sub.nil _)))))))) (HSub.pick 0 rfl (HSub.pick 0 rfl (HSub.pick 0 rfl (HSub.pick 0 rfl (HSub.nil _))))) ?_
        rintro t ht
        refine RunC.seq ?_
        refine RunC.region ?_
        refine RunL.still rfl rfl rfl (Still.lss rfl rfl rfl) ?_
        refine RunL.nil ?_
        refine Ends.then ?_
        refine RunC.seq ?_
        refine RunC.cond rfl (fun h41 => ?_) (fun h41 => ?_)
        · have h41 := of_decide_eq_true h41
          have htN : t < g.length := by omega
          refine RunC.skip ?_
          refine Ends.then ?_
          refine RunC.seq ?_
          refine RunC.block ?_
          refine RunC.seq ?_
          refine RunC.region ?_
          refine RunL.still rfl rfl rfl (Still.move rfl rfl) ?_
          refine RunL.still rfl rfl rfl (Still.indexOwn rfl rfl rfl Tryz.underlying36 Tryz.sizeOf3 (fun _ hs => hs.own (i := 1) rfl) (by omega)) ?_
          refine RunL.still rfl rfl rfl (Still.load rfl rfl Tryz.isAgg3 (fun w hs => own_at (hs.own (i := 1) rfl) (ints_get (getD_get' (by omega))))) ?_
          refine RunL.still rfl rfl rfl (Still.assign rfl rfl) ?_
          refine RunL.still rfl rfl rfl (Still.assign rfl rfl) ?_
          refine RunL.nil ?_
          refine Ends.then ?_
          refine RunC.seq ?_
          refine RunC.region ?_
          refine RunL.still rfl rfl rfl (Still.move rfl rfl) ?_
          refine RunL.still rfl rfl rfl (Still.move rfl rfl) ?_
          refine RunL.still rfl rfl rfl (Still.eql rfl rfl rfl) ?_
          refine RunL.nil ?_
          refine Ends.then ?_
          refine RunC.cond rfl (fun h47 => ?_) (fun h47 => ?_)
          · have h47 := of_decide_eq_true h47
            refine RunC.region ?_
            refine RunL.still rfl rfl rfl (Still.move rfl rfl) ?_
            refine RunL.still rfl rfl rfl (Still.move rfl rfl) ?_
            refine RunL.still rfl rfl rfl (Still.move rfl rfl) ?_
            refine RunL.still rfl rfl rfl (Still.lenMap rfl rfl (i := 0) rfl Tryz.underlying96) ?_
            refine RunL.does0 rfl rfl (Does.mapUpdate (k := (t : Int)) rfl rfl rfl rfl (i := 0) rfl Tryz.underlying96 mk3) (fun _ _ => ?_)
            refine RunL.nil ?_
            refine Ends.block ?_
            refine Ends.then ?_
            refine RunC.region ?_
            refine RunL.still rfl rfl rfl (Still.add rfl rfl rfl (fits64 (by omega) (by omega))) ?_
            refine RunL.still rfl rfl rfl (Still.move rfl rfl) ?_
            refine RunL.nil ?_
            refine Ends.again (t + 1) ?_ ?_ (Fr.Sub.app ?_ ?_) ?_
            · show _; omega
            · show _ < _; omega
            · exact Fr.Sub.cons rfl (Fr.Sub.nil _)
            · exact Fr.Sub.cons rfl (Fr.Sub.cons rfl (Fr.Sub.cons rfl (Fr.Sub.cons rfl (Fr.Sub.cons rfl (Fr.Sub.cons rfl (Fr.Sub.cons rfl (Fr.Sub.nil _)))))))
            · exact HSub.pick 0 (congrArg (fun z => some (HL.mp b37 encI z)) (mpTo_put (by omega) h47)) (HSub.pick 0 rfl (HSub.pick 0 rfl (HSub.pick 0 rfl (HSub.nil _))))
          · have h47 := of_decide_eq_false h47
            refine RunC.skip ?_
            refine Ends.block ?_
            refine Ends.then ?_
            refine RunC.region ?_
            refine RunL.still rfl rfl rfl (Still.add rfl rfl rfl (fits64 (by omega) (by omega))) ?_
            refine RunL.still rfl rfl rfl (Still.move rfl rfl) ?_
            refine RunL.nil ?_
            refine Ends.again (t + 1) ?_ ?_ (Fr.Sub.app ?_ ?_) ?_
            · show _; omega
            · show _ < _; omega
            · exact Fr.Sub.cons rfl (Fr.Sub.nil _)
            · exact Fr.Sub.cons rfl (Fr.Sub.cons rfl (Fr.Sub.cons rfl (Fr.Sub.cons rfl (Fr.Sub.cons rfl (Fr.Sub.cons rfl (Fr.Sub.cons rfl (Fr.Sub.nil _)))))))
            · exact HSub.pick 0 (congrArg (fun z => some (HL.mp b37 encI z)) (mpTo_skip h47).symm) (HSub.pick 0 rfl (HSub.pick 0 rfl (HSub.pick 0 rfl (HSub.nil _))))
        · have h41 := of_decide_eq_false h41
          obtain rfl : t = g.length := by omega
          refine RunC.exit ?_
          refine Ends.then_exit ?_
          refine Ends.then_exit ?_
          refine Ends.block_exit ?_
          refine Ends.then ?_
          refine RunC.seq ?_
          refine RunC.region ?_
          refine RunL.grows rfl rfl rfl (Grows.alloc rfl Tryz.zeroValue24) (fun b12 _ => ?_)
          refine RunL.own_nil 35 20 ?_
          refine RunL.nil ?_
          refine Ends.then ?_
          refine RunC.seq ?_
          refine RunC.seq ?_
          refine RunC.region ?_
          refine RunL.still rfl rfl rfl (Still.move rfl rfl) ?_
          refine RunL.still rfl rfl rfl (Still.lenOwn rfl rfl Tryz.underlying36 (fun _ hs => hs.own (i := 3) rfl)) ?_
          refine RunL.still rfl rfl rfl (Still.move rfl rfl) ?_
          refine RunL.nil ?_
          refine Ends.then ?_
          refine RunC.block ?_
          refine RunC.loop2 (γ := Value × Nat) (keep := [(1, _), (2, _), (4, _), (9, _), (12, _), (53, _), (54, _)]) (hkeep := [_, _, _, _]) (fun (v, t) => t ≤ g.length) (fun (v, t) => g.length - t) (fun (v, t) => [(55, iv t)]) (fun (v, t) => [HL.obj b12 (.cells #[v] 24 (0, 0)), HL.own 35 20 v (partL g (partsOf g) k t).length ((partL g (partsOf g) k t).flatMap encT)]) (.slice none 0 0, 0) (by omega) (Fr.Sub.cons rfl (Fr.Sub.nil _)) (Fr.Sub.cons rfl (Fr.Sub.cons rfl (Fr.Sub.cons rfl (Fr.Sub.cons rfl (Fr.Sub.cons rfl (Fr.Sub.cons rfl (Fr.Sub.cons rfl (Fr.Sub.nil _)))))))) (HSub.pick 1 rfl (HSub.pick 0 rfl (HSub.pick 0 rfl (HSub.pick 0 rfl (HSub.pick 0 rfl (HSub.pick 0 rfl (HSub.nil _))))))) ?_
          rintro ⟨v, t⟩ ht
          have ht : t ≤ g.length := ht
          refine RunC.seq ?_
          refine RunC.region ?_
          refine RunL.still rfl rfl rfl (Still.lss rfl rfl rfl) ?_
          refine RunL.nil ?_
          refine Ends.then ?_
          refine RunC.seq ?_
          refine RunC.cond rfl (fun h56 => ?_) (fun h56 => ?_)
          · have h56 := of_decide_eq_true h56
            have htN : t < g.length := by omega
            obtain ⟨x, hx⟩ := get_of_lt (l := g) (i := t) htN
            have hxt : tAt g t = x := tAt_eq hx
            refine RunC.skip ?_
            refine Ends.then ?_
            refine RunC.seq ?_
            refine RunC.block ?_
            refine RunC.seq ?_
            refine RunC.region ?_
            refine RunL.still rfl rfl rfl (Still.move rfl rfl) ?_
            refine RunL.still rfl rfl rfl (Still.indexOwn rfl rfl rfl Tryz.underlying36 Tryz.sizeOf3 (fun _ hs => hs.own (i := 3) rfl) (by omega)) ?_
            refine RunL.still rfl rfl rfl (Still.load rfl rfl Tryz.isAgg3 (fun w hs => own_at (hs.own (i := 3) rfl) (ints_get (getD_get' (by omega))))) ?_
            refine RunL.still rfl rfl rfl (Still.assign rfl rfl) ?_
            refine RunL.still rfl rfl rfl (Still.assign rfl rfl) ?_
            refine RunL.nil ?_
            refine Ends.then ?_
            refine RunC.seq ?_
            refine RunC.seq ?_
            refine RunC.region ?_
            refine RunL.still rfl rfl rfl (Still.move rfl rfl) ?_
            refine RunL.still rfl rfl rfl (Still.move rfl rfl) ?_
            refine RunL.still rfl rfl rfl (Still.neq rfl rfl rfl) ?_
            refine RunL.nil ?_
            refine Ends.then ?_
            refine RunC.cond rfl (fun h62 => ?_) (fun h62 => ?_)
            · have h62 := of_decide_eq_true h62
              refine RunC.exit ?_
              refine Ends.then_exit ?_
              refine Ends.block_exit ?_
              refine Ends.then ?_
              refine RunC.region ?_
              refine RunL.still rfl rfl rfl (Still.add rfl rfl rfl (fits64 (by omega) (by omega))) ?_
              refine RunL.still rfl rfl rfl (Still.move rfl rfl) ?_
              refine RunL.nil ?_
              refine Ends.again (v, t + 1) ?_ ?_ (Fr.Sub.app ?_ ?_) ?_
              · show t + 1 ≤ _; omega
              · show _ - (t + 1) < _ - t; omega
              · exact Fr.Sub.cons rfl (Fr.Sub.nil _)
              · exact Fr.Sub.cons rfl (Fr.Sub.cons rfl (Fr.Sub.cons rfl (Fr.Sub.cons rfl (Fr.Sub.cons rfl (Fr.Sub.cons rfl (Fr.Sub.cons rfl (Fr.Sub.nil _)))))))
              · exact HSub.pick 0 rfl (HSub.pick 0 (by rw [partL_no h62]; rfl) (HSub.pick 0 rfl (HSub.pick 0 rfl (HSub.pick 0 rfl (HSub.pick 0 rfl (HSub.nil _))))))
            · have h62 := of_decide_eq_false h62
              refine RunC.skip ?_
              refine Ends.then ?_
              refine RunC.seq ?_
              refine RunC.region ?_
              refine RunL.still rfl rfl rfl (Still.fieldAddrL (off := 0) (off' := 0) rfl rfl Tryz.underlying24 rfl Tryz.sizeOf22 rfl) ?_
              refine RunL.still rfl rfl rfl (Still.load rfl rfl Tryz.isAgg22 (fun _ hs => cell_nth (hs.at (i := 5) rfl) rfl)) ?_
              refine RunL.still rfl rfl rfl (Still.move rfl rfl) ?_
              refine RunL.still rfl rfl rfl (Still.indexSliceN rfl rfl rfl Tryz.underlying22 Tryz.sizeOf35 (hg.base (by omega)) (by omega)) ?_
              refine RunL.still rfl rfl rfl (Still.loads rfl rfl Tryz.isAgg35 Tryz.sizeOf35 (vs := [iv x.f0.tet, iv x.f0.p.a0, iv x.f0.p.a1, iv x.f0.p.a2, iv x.f0.p.a3, iv x.f1.tet, iv x.f1.p.a0, iv x.f1.p.a1, iv x.f1.p.a2, iv x.f1.p.a3, iv x.f2.tet, iv x.f2.p.a0, iv x.f2.p.a1, iv x.f2.p.a2, iv x.f2.p.a3, iv x.f3.tet, iv x.f3.p.a0, iv x.f3.p.a1, iv x.f3.p.a2, iv x.f3.p.a3]) rfl (fun _ hs => (hg.sym hs).cell t x hx)) ?_
              refine RunL.grows rfl rfl rfl (Grows.alloc rfl Tryz.zeroValue35) (fun b15 _ => ?_)
              refine RunL.does0 rfl rfl (Does.store rfl rfl rfl (i := 0) rfl Tryz.sizeOf35 rfl (rfl) rfl) (fun _ _ => ?_)
              refine RunL.conv (fun _ hs => hs.re 0 rfl (show _ = HL.obj b15 (.cells (ttA x) 35 (0, 0)) from congrArg (fun z => HL.obj b15 (.cells z 35 (0, 0))) (putT x))) ?_
              refine RunL.nil ?_
              refine Ends.then ?_
              refine RunC.seq ?_
              refine RunC.seq ?_
              refine RunC.region ?_
              refine RunL.still rfl rfl rfl (Still.loads rfl rfl Tryz.isAgg35 Tryz.sizeOf35 (vs := [iv x.f0.tet, iv x.f0.p.a0, iv x.f0.p.a1, iv x.f0.p.a2, iv x.f0.p.a3, iv x.f1.tet, iv x.f1.p.a0, iv x.f1.p.a1, iv x.f1.p.a2, iv x.f1.p.a3, iv x.f2.tet, iv x.f2.p.a0, iv x.f2.p.a1, iv x.f2.p.a2, iv x.f2.p.a3, iv x.f3.tet, iv x.f3.p.a0, iv x.f3.p.a1, iv x.f3.p.a2, iv x.f3.p.a3]) rfl (fun _ hs => cells_nth (hs.at (i := 0) rfl) (cellsAt_ttA x))) ?_
              refine RunL.still rfl rfl rfl (Still.move rfl rfl) ?_
              refine RunL.nil ?_
              refine Ends.then ?_
              refine RunC.block ?_
              refine RunC.loop2 (γ := Nat) (keep := [(1, _), (2, _), (4, _), (9, _), (12, _), (15, _), (53, _), (54, _), (55, _), (68, _)]) (hkeep := [_, _, _, _, _, _]) (fun f => f ≤ 4) (fun f => 4 - f) (fun f => [(69, iv f)]) (fun f => [HL.obj b15 (.cells (ttA (chTo (numM (partsOf g) k) x f)) 35 (0, 0))]) 0 (by omega) (Fr.Sub.cons rfl (Fr.Sub.nil _)) (Fr.Sub.cons rfl (Fr.Sub.cons rfl (Fr.Sub.cons rfl (Fr.Sub.cons rfl (Fr.Sub.cons rfl (Fr.Sub.cons rfl (Fr.Sub.cons rfl (Fr.Sub.cons rfl (Fr.Sub.cons rfl (Fr.Sub.cons rfl (Fr.Sub.nil _))))))))))) (HSub.pick 0 rfl (HSub.pick 0 rfl (HSub.pick 0 rfl (HSub.pick 0 rfl (HSub.pick 0 rfl (HSub.pick 0 rfl (HSub.pick 0 rfl (HSub.nil _)))))))) ?_
              rintro f hf
              refine RunC.seq ?_
              refine RunC.region ?_
              refine RunL.still rfl rfl rfl (Still.lss rfl rfl rfl) ?_
              refine RunL.nil ?_
              refine Ends.then ?_
              refine RunC.seq ?_
              refine RunC.cond rfl (fun h70 => ?_) (fun h70 => ?_)
              · have h70 := of_decide_eq_true h70
                have hf4 : f < 4 := by omega
                have hxf := okG_tet hok htN hf4
                rw [fAt_of hx] at hxf
                refine RunC.skip ?_
                refine Ends.then ?_
                refine RunC.seq ?_
                refine RunC.block ?_
                refine RunC.seq ?_
                refine RunC.region ?_
                refine RunL.still rfl rfl rfl (Still.move rfl rfl) ?_
                refine RunL.still rfl rfl rfl (Still.indexAgg rfl rfl rfl Tryz.underlying35 Tryz.sizeOf34 Tryz.isAgg34 ⟨by omega, by omega⟩ (ttV_part x hf4)) ?_
                refine RunL.grows rfl rfl rfl (Grows.alloc rfl Tryz.zeroValue34) (fun b17 _ => ?_)
                refine RunL.still rfl rfl rfl (Still.assign rfl rfl) ?_
                refine RunL.does0 rfl rfl (Does.store rfl rfl rfl (i := 0) rfl Tryz.sizeOf34 rfl (rfl) rfl) (fun _ _ => ?_)
                refine RunL.nil ?_
                refine Ends.then ?_
                refine RunC.seq ?_
                refine RunC.region ?_
                refine RunL.still rfl rfl rfl (Still.fieldAddrL (off := 0) (off' := 0) rfl rfl Tryz.underlying34 rfl Tryz.sizeOf3 rfl) ?_
                refine RunL.still rfl rfl rfl (Still.load rfl rfl Tryz.isAgg3 (fun _ hs => cell_nth (hs.at (i := 0) rfl) rfl)) ?_
                refine RunL.still rfl rfl rfl (Still.geq rfl rfl rfl) ?_
                refine RunL.nil ?_
                refine Ends.then ?_
                refine RunC.cond rfl (fun h75 => ?_) (fun h75 => ?_)
                · have h75 := of_decide_eq_true h75
                  refine RunC.region ?_
                  refine RunL.still rfl rfl rfl (Still.move rfl rfl) ?_
                  refine RunL.still rfl rfl rfl (Still.move rfl rfl) ?_
                  refine RunL.still rfl rfl rfl (Still.fieldAddrL (off := 0) (off' := 0) rfl rfl Tryz.underlying34 rfl Tryz.sizeOf3 rfl) ?_
                  refine RunL.still rfl rfl rfl (Still.load rfl rfl Tryz.isAgg3 (fun _ hs => cell_nth (hs.at (i := 0) rfl) rfl)) ?_
                  refine RunL.still rfl rfl rfl (Still.lookup1 (k := (x.at f).tet) rfl rfl rfl (i := 4) rfl Tryz.underlying96 mk3 Tryz.zeroValue3 (mpTo_val h75 (by omega))) ?_
                  refine RunL.still rfl rfl rfl (Still.indexArrNL rfl rfl rfl Tryz.underlying35 Tryz.sizeOf34 (by omega)) ?_
                  refine RunL.still rfl rfl rfl (Still.fieldAddrL rfl rfl Tryz.underlying34 rfl Tryz.sizeOf3 rfl) ?_
                  refine RunL.does0 rfl rfl (Does.store1 rfl rfl rfl (i := 1) rfl Tryz.sizeOf3 rfl (Nat.ble_eq_true_of_le (show 0 + f * 5 + 0 + 1 ≤ 20 by omega))) (fun _ _ => ?_)
                  refine RunL.conv (fun _ hs => hs.re 1 rfl (show _ = HL.obj b15 (.cells (ttA (chTo (numM (partsOf g) k) x (f + 1))) 35 (0, 0)) from congrArg (fun z => HL.obj b15 (.cells z 35 (0, 0))) (chTo_tet hf4 (numM_pos h75)))) ?_
                  refine RunL.nil ?_
                  refine Ends.block ?_
                  refine Ends.then ?_
                  refine RunC.region ?_
                  refine RunL.still rfl rfl rfl (Still.add rfl rfl rfl (fits64 (by omega) (by omega))) ?_
                  refine RunL.still rfl rfl rfl (Still.move rfl rfl) ?_
                  refine RunL.nil ?_
                  refine Ends.again (f + 1) ?_ ?_ (Fr.Sub.app ?_ ?_) ?_
                  · show _; omega
                  · show _ < _; omega
                  · exact Fr.Sub.cons rfl (Fr.Sub.nil _)
                  · exact Fr.Sub.cons rfl (Fr.Sub.cons rfl (Fr.Sub.cons rfl (Fr.Sub.cons rfl (Fr.Sub.cons rfl (Fr.Sub.cons rfl (Fr.Sub.cons rfl (Fr.Sub.cons rfl (Fr.Sub.cons rfl (Fr.Sub.cons rfl (Fr.Sub.nil _))))))))))
                  · exact HSub.pick 1 rfl (HSub.pick 1 rfl (HSub.pick 1 rfl (HSub.pick 1 rfl (HSub.pick 1 rfl (HSub.pick 1 rfl (HSub.pick 1 rfl (HSub.nil _)))))))
                · have h75 := of_decide_eq_false h75
                  refine RunC.skip ?_
                  refine Ends.block ?_
                  refine Ends.then ?_
                  refine RunC.region ?_
                  refine RunL.still rfl rfl rfl (Still.add rfl rfl rfl (fits64 (by omega) (by omega))) ?_
                  refine RunL.still rfl rfl rfl (Still.move rfl rfl) ?_
                  refine RunL.nil ?_
                  refine Ends.again (f + 1) ?_ ?_ (Fr.Sub.app ?_ ?_) ?_
                  · show _; omega
                  · show _ < _; omega
                  · exact Fr.Sub.cons rfl (Fr.Sub.nil _)
                  · exact Fr.Sub.cons rfl (Fr.Sub.cons rfl (Fr.Sub.cons rfl (Fr.Sub.cons rfl (Fr.Sub.cons rfl (Fr.Sub.cons rfl (Fr.Sub.cons rfl (Fr.Sub.cons rfl (Fr.Sub.cons rfl (Fr.Sub.cons rfl (Fr.Sub.nil _))))))))))
                  · exact HSub.pick 1 (by rw [chTo_keep hf4 (numM_neg (by omega))]; rfl) (HSub.pick 1 rfl (HSub.pick 1 rfl (HSub.pick 1 rfl (HSub.pick 1 rfl (HSub.pick 1 rfl (HSub.pick 1 rfl (HSub.nil _)))))))
              · have h70 := of_decide_eq_false h70
                obtain rfl : f = 4 := by omega
                refine RunC.exit ?_
                refine Ends.then_exit ?_
                refine Ends.then_exit ?_
                refine Ends.block_exit ?_
                refine Ends.then ?_
                refine RunC.conv (fun _ hs => hs.re 0 rfl (show _ = HL.obj b15 (.cells (ttV (mapF x (numM (partsOf g) k))).cells 35 (0, 0)) by rw [chTo_four]; rfl)) ?_
                refine RunC.region ?_
                refine RunL.still rfl rfl rfl (Still.fieldAddrL (off := 0) (off' := 0) rfl rfl Tryz.underlying24 rfl Tryz.sizeOf22 rfl) ?_
                refine RunL.still rfl rfl rfl (Still.load rfl rfl Tryz.isAgg22 (fun _ hs => cell_nth (hs.at (i := 1) rfl) rfl)) ?_
                refine RunL.still rfl rfl rfl (Still.loads rfl rfl Tryz.isAgg35 Tryz.sizeOf35 (vs := [_, _, _, _, _, _, _, _, _, _, _, _, _, _, _, _, _, _, _, _]) rfl (fun _ hs => cells_nth (hs.at (i := 0) rfl) ⟨rfl, ⟨rfl, ⟨rfl, ⟨rfl, ⟨rfl, ⟨rfl, ⟨rfl, ⟨rfl, ⟨rfl, ⟨rfl, ⟨rfl, ⟨rfl, ⟨rfl, ⟨rfl, ⟨rfl, ⟨rfl, ⟨rfl, ⟨rfl, ⟨rfl, ⟨rfl, trivial⟩⟩⟩⟩⟩⟩⟩⟩⟩⟩⟩⟩⟩⟩⟩⟩⟩⟩⟩⟩)) ?_
                refine RunL.grows rfl rfl rfl (Grows.slice1 rfl rfl Tryz.underlying22 Tryz.sizeOf35 rfl Tryz.zeroValue35 (by decide)) (fun b87 _ => ?_)
                refine RunL.does rfl rfl rfl (Does.appendTo (n' := ((partL g (partsOf g) k t).length + 1)) (xs' := (((partL g (partsOf g) k t) ++ [mapF x (numM (partsOf g) k)]).flatMap encT)) (news := [_, _, _, _, _, _, _, _, _, _, _, _, _, _, _, _, _, _, _, _]) rfl rfl rfl rfl (i := 3) rfl Tryz.underlying22 (by kernel_rfl : (_ : Option _) = some (some (.agg #[.int .i64 0, .int .i64 0, .int .i64 0, .int .i64 0, .int .i64 0, .int .i64 0, .int .i64 0, .int .i64 0, .int .i64 0, .int .i64 0, .int .i64 0, .int .i64 0, .int .i64 0, .int .i64 0, .int .i64 0, .int .i64 0, .int .i64 0, .int .i64 0, .int .i64 0, .int .i64 0]), 20, 160)) rfl rfl (fun _ hs => cells_nth (hs.at (i := 0) rfl) ⟨rfl, ⟨rfl, ⟨rfl, ⟨rfl, ⟨rfl, ⟨rfl, ⟨rfl, ⟨rfl, ⟨rfl, ⟨rfl, ⟨rfl, ⟨rfl, ⟨rfl, ⟨rfl, ⟨rfl, ⟨rfl, ⟨rfl, ⟨rfl, ⟨rfl, ⟨rfl, trivial⟩⟩⟩⟩⟩⟩⟩⟩⟩⟩⟩⟩⟩⟩⟩⟩⟩⟩⟩⟩) rfl rfl (by have := partL_len (g := g) (l := partsOf g) (k := k) t; omega) (by have := partL_len (g := g) (l := partsOf g) (k := k) t; omega) (rfl) (flatT_snoc _ _)) (fun v88 hv88 => ?_)
                refine RunL.know (fun _ hs => own_oneCell (hs.own (i := 3) rfl)) (fun h1v => ?_)
                refine RunL.still rfl rfl rfl (Still.fieldAddrL (off := 0) (off' := 0) rfl rfl Tryz.underlying24 rfl Tryz.sizeOf22 rfl) ?_
                refine RunL.does0 rfl rfl (Does.store1 rfl rfl rfl (i := 2) rfl Tryz.sizeOf22 (h1v) (rfl)) (fun _ _ => ?_)
                refine RunL.nil ?_
                refine Ends.block ?_
                refine Ends.then ?_
                refine RunC.region ?_
                refine RunL.still rfl rfl rfl (Still.add rfl rfl rfl (fits64 (by omega) (by omega))) ?_
                refine RunL.still rfl rfl rfl (Still.move rfl rfl) ?_
                refine RunL.nil ?_
                refine Ends.again (v88, t + 1) ?_ ?_ (Fr.Sub.app ?_ ?_) ?_
                · show t + 1 ≤ _; omega
                · show _ - (t + 1) < _ - t; omega
                · exact Fr.Sub.cons rfl (Fr.Sub.nil _)
                · exact Fr.Sub.cons rfl (Fr.Sub.cons rfl (Fr.Sub.cons rfl (Fr.Sub.cons rfl (Fr.Sub.cons rfl (Fr.Sub.cons rfl (Fr.Sub.cons rfl (Fr.Sub.nil _)))))))
                · exact HSub.pick 2 rfl (HSub.pick 2 (by rw [partL_yes (Decidable.not_not.1 h62), hxt, List.length_append]; rfl) (HSub.pick 2 rfl (HSub.pick 2 rfl (HSub.pick 2 rfl (HSub.pick 2 rfl (HSub.nil _))))))
          · have h56 := of_decide_eq_false h56
            obtain rfl : t = g.length := by omega
            refine RunC.know (fun _ hs => own_shape (hs.own (i := 1) rfl)) (fun hsh => ?_)
            obtain ⟨vb, vc, hvv, hvb⟩ := hsh
            subst hvv
            refine RunC.exit ?_
            refine Ends.then_exit ?_
            refine Ends.then_exit ?_
            refine Ends.block_exit ?_
            refine Ends.then ?_
            refine RunC.seq ?_
            refine RunC.region ?_
            refine RunL.still rfl rfl rfl (Still.loads rfl rfl Tryz.isAgg24 Tryz.sizeOf24 (vs := [_]) rfl (fun _ hs => cells_nth (hs.at (i := 0) rfl) ⟨rfl, trivial⟩)) ?_
            refine RunL.does0 rfl rfl (Does.store rfl rfl rfl (i := 4) rfl Tryz.sizeOf24 rfl (rfl) rfl) (fun _ _ => ?_)
            refine RunL.still rfl rfl rfl (Still.assign rfl rfl) ?_
            refine RunL.nil ?_
            refine Ends.then ?_
            refine RunC.ret ?_
            refine Ends.leave (.inl rfl) (fun _ _ ok => results2 Tryz.results33 (Holds.cell rfl (fun _ hs => load_cells (vs := [_]) Tryz.isAgg24 Tryz.sizeOf24 rfl (cells_nth (hs.at (i := 4) rfl) ⟨rfl, trivial⟩))) (Holds.tmp rfl) ok) (fun w1 hs => ?_)
            exact Ret.intro (vb, vc) hvb rfl (HSub.pick 1 rfl (HSub.nil _)) hs

end Go.Proofs
/- The statement GlueStays: the walk. -/
namespace Go.Proofs
open Go Go.V
set_option maxRecDepth 20000
/-- The call returns; of what it returns nothing is said. -/
abbrev Any' (n : Nat) (args : Array Value) (w : World) : Prop := Gives Tryz.prog n args w Nil (fun _ : Value => True) (fun v => v) (fun _ => [])
theorem gives_any {n : Nat} {args : Array Value} {w : World} {γ : Type} {φ : γ → Prop} {V : γ → Value} {H : γ → List HL} (h : Gives Tryz.prog n args w Nil φ V H) : Any' n args w := by
  refine Calls.mono h ?_
  rintro e w' ⟨g, _, he, hs⟩
  exact ⟨V g, trivial, he, hs.sub (HSub.nil _)⟩
theorem any_Text (base : Option Addr) (A : Addr) (cap : Nat) (g : Glu) (w : World) (hg : GluAt w base A g) (he : Env w) : Any' 26 #[gluV base cap g] w := by
  by_cases hok : okG g = true
  · exact gives_any (gl_Text base A cap g w hg hok he)
  · exact gives_any (gl_Text_bad base A cap g w hg (by simpa using hok))
theorem any_Parts (base : Option Addr) (A : Addr) (cap : Nat) (g : Glu) (w : World) (hg : GluAt w base A g) : Any' 16 #[gluV base cap g] w := by
  by_cases hok : okG g = true
  · exact gives_any (gl_Parts base A cap g w hg hok)
  · exact gives_any (gl_Parts_bad base A cap g w hg (by simpa using hok))
theorem any_Orient (base : Option Addr) (A : Addr) (cap : Nat) (g : Glu) (w : World) (hg : GluAt w base A g) : Any' 15 #[gluV base cap g] w := by
  by_cases hok : okG g = true
  · exact gives_any (gl_Orient base A cap g w hg hok)
  · exact gives_any (gl_Orient_bad base A cap g w hg (by simpa using hok))
theorem any_Part (base : Option Addr) (A : Addr) (cap : Nat) (g : Glu) (k : Int) (w : World) (hg : GluAt w base A g) : Any' 33 #[gluV base cap g, iv k] w := by
  by_cases hok : okG g = true
  · by_cases hk : 0 ≤ k ∧ k < partsN g
    · exact gives_any (gl_Part base A cap g k w hg hok hk (pAll_ok hok g.length (Nat.le_refl _)).1)
    · exact gives_any (gl_Part_arg base A cap g k w hg hok (by omega))
  · exact gives_any (gl_Part_bad base A cap g k w hg (by simpa using hok))

theorem lw_GlueStays (gb : Option Addr) (GA : Addr) (gc : Nat) (g : Glu) (hb : Option Addr) (HA : Addr) (hc : Nat) (h : Glu) (ob : Option Addr) (OA : Addr) (oc : Nat) (xs : List Int) (pb : Option Addr) (PA : Addr) (pc : Nat) (ps : List P4) (k : Int) (w : World) (he : Env w) (hg : GluAt w gb GA g) (hh : GluAt w hb HA h) (hx : LisAt w ob OA xs) (hp : PermsAt w pb PA ps) : Gives Tryz.prog 8 #[gluV gb gc g, gluV hb hc h, lisV ob oc xs, prmV pb pc ps, iv k] w Nil (fun _ : Unit => True) (fun _ => .bool true) (fun _ => []) := by
  have hxl := hx.len
  have hpl := hp.len
  have hgl := hg.len
  have hhl := hh.len
  refine fn_of_run (S := Nil) (args := [gluV gb gc g, gluV hb hc h, lisV ob oc xs, prmV pb pc ps, iv k]) (n := 102) (L := []) Tryz.func8 rfl Tryz.ntmps8 (Nat.le_of_ble_eq_true rfl) (Sym.nil _ _) ?_
  change RunC _ _ _ [(0, _), (1, _), (2, _), (3, _), (4, _)] _
  refine RunC.seq ?_
  refine RunC.region ?_
  refine RunL.grows rfl rfl rfl (Grows.box rfl rfl) (fun b5 _ => ?_)
  refine RunL.grows rfl rfl rfl (Grows.box rfl rfl) (fun b6 _ => ?_)
  refine RunL.still rfl rfl rfl (Still.assign rfl rfl) ?_
  refine RunL.nil ?_
  refine Ends.then ?_
  refine RunC.seq ?_
  refine RunC.seq ?_
  refine RunC.region ?_
  refine RunL.grows rfl rfl rfl (Grows.call (vs := #[]) rfl rfl Tryz.call9 (fun w hs => lw_sane w (he.sym hs))) (fun _ _ => ?_)
  refine RunL.still rfl rfl rfl (Still.not rfl rfl) ?_
  refine RunL.again (t := 17) (u := .bool false) rfl (rfl) ?_
  refine RunL.nil ?_
  refine Ends.then ?_
  refine RunC.cond_false rfl ?_
  refine RunC.skip ?_
  refine Ends.then ?_
  refine RunC.seq ?_
  refine RunC.seq ?_
  refine RunC.region ?_
  refine RunL.still rfl rfl rfl (Still.loads rfl rfl Tryz.isAgg24 Tryz.sizeOf24 (vs := [_]) rfl (fun _ hs => cells_nth (hs.at (i := 1) rfl) ⟨rfl, trivial⟩)) ?_
  refine RunL.still rfl rfl rfl (Still.loads rfl rfl Tryz.isAgg24 Tryz.sizeOf24 (vs := [_]) rfl (fun _ hs => cells_nth (hs.at (i := 0) rfl) ⟨rfl, trivial⟩)) ?_
  refine RunL.grows rfl rfl rfl (Grows.buildSlice (vs := #[(0, _), (1, _)]) (cells := #[.slice gb g.length gc, .slice hb h.length hc]) rfl rfl Tryz.underlying63 Tryz.sizeOf24 Tryz.zeroValue24 (by decide) (by kernel_rfl)) (fun b20 _ => ?_)
  refine RunL.grows rfl rfl rfl (Grows.call (vs := #[_]) rfl rfl Tryz.call10 (fun w hs => lw_small2 b20 gb hb gc hc g.length h.length w (cells_nth (hs.at (i := 0) rfl) ⟨rfl, rfl, trivial⟩))) (fun _ _ => ?_)
  refine RunL.still rfl rfl rfl (Still.not rfl rfl) ?_
  refine RunL.still rfl rfl rfl (Still.move rfl rfl) ?_
  refine RunL.split (t := 23) rfl (fun h23 => ?_) (fun h23 => ?_)
  · skip
    refine RunL.off rfl rfl rfl ?_
    refine RunL.off rfl rfl rfl ?_
    refine RunL.off rfl rfl rfl ?_
    refine RunL.still rfl rfl rfl (Still.pickT rfl rfl rfl) ?_
    refine RunL.still rfl rfl rfl (Still.move rfl rfl) ?_
    refine RunL.off rfl rfl rfl ?_
    refine RunL.off rfl rfl rfl ?_
    refine RunL.off rfl rfl rfl ?_
    refine RunL.still rfl rfl rfl (Still.pickT rfl rfl rfl) ?_
    refine RunL.nil ?_
    refine Ends.then ?_
    refine RunC.cond_true rfl ?_
    refine RunC.seq ?_
    refine RunC.region ?_
    refine RunL.still rfl rfl rfl (Still.assign rfl rfl) ?_
    refine RunL.nil ?_
    refine Ends.then ?_
    refine RunC.ret ?_
    refine Ends.then_ret ?_
    refine Ends.leave (.inl rfl) (fun _ _ ok => results1 Tryz.results8 (Holds.tmp rfl) ok) (fun w1 hs => ?_)
    exact Ret.intro () trivial rfl (HSub.nil _) hs
  · have hsm : (decide (g.length ≤ 12) && decide (h.length ≤ 12)) = true := by simpa using h23
    rw [Bool.and_eq_true] at hsm
    have hgl2 := of_decide_eq_true hsm.1
    have hhl2 := of_decide_eq_true hsm.2
    refine RunL.still rfl rfl rfl (Still.move rfl rfl) ?_
    refine RunL.still rfl rfl rfl (Still.lenSlice rfl rfl Tryz.underlying36) ?_
    refine RunL.still rfl rfl rfl (Still.gtr rfl rfl rfl) ?_
    refine RunL.still rfl rfl rfl (Still.pickF rfl rfl rfl) ?_
    refine RunL.still rfl rfl rfl (Still.move rfl rfl) ?_
    refine RunL.split (t := 28) rfl (fun h28 => ?_) (fun h28 => ?_)
    · have h28 := of_decide_eq_true h28
      refine RunL.off rfl rfl rfl ?_
      refine RunL.off rfl rfl rfl ?_
      refine RunL.off rfl rfl rfl ?_
      refine RunL.still rfl rfl rfl (Still.pickT rfl rfl rfl) ?_
      refine RunL.nil ?_
      refine Ends.then ?_
      refine RunC.cond_true rfl ?_
      refine RunC.seq ?_
      refine RunC.region ?_
      refine RunL.still rfl rfl rfl (Still.assign rfl rfl) ?_
      refine RunL.nil ?_
      refine Ends.then ?_
      refine RunC.ret ?_
      refine Ends.then_ret ?_
      refine Ends.leave (.inl rfl) (fun _ _ ok => results1 Tryz.results8 (Holds.tmp rfl) ok) (fun w2 hs => ?_)
      exact Ret.intro () trivial rfl (HSub.nil _) hs
    · have h28 := of_decide_eq_false h28
      refine RunL.still rfl rfl rfl (Still.move rfl rfl) ?_
      refine RunL.still rfl rfl rfl (Still.lenSlice rfl rfl Tryz.underlying43) ?_
      refine RunL.still rfl rfl rfl (Still.gtr rfl rfl rfl) ?_
      refine RunL.still rfl rfl rfl (Still.pickF rfl rfl rfl) ?_
      refine RunL.nil ?_
      refine Ends.then ?_
      refine RunC.cond rfl (fun h32 => ?_) (fun h32 => ?_)
      · have h32 := of_decide_eq_true h32
        refine RunC.seq ?_
        refine RunC.region ?_
        refine RunL.still rfl rfl rfl (Still.assign rfl rfl) ?_
        refine RunL.nil ?_
        refine Ends.then ?_
        refine RunC.ret ?_
        refine Ends.then_ret ?_
        refine Ends.leave (.inl rfl) (fun _ _ ok => results1 Tryz.results8 (Holds.tmp rfl) ok) (fun w3 hs => ?_)
        exact Ret.intro () trivial rfl (HSub.nil _) hs
      · have h32 := of_decide_eq_false h32
        refine RunC.skip ?_
        refine Ends.then ?_
        refine RunC.seq ?_
        refine RunC.region ?_
        refine RunL.grows rfl rfl rfl (Grows.empty rfl Tryz.underlying22 Tryz.sizeOf35 Tryz.zeroValue35) (fun b33 _ => ?_)
        refine RunL.still rfl rfl rfl (Still.fieldAddrL (off := 0) (off' := 0) rfl rfl Tryz.underlying24 rfl Tryz.sizeOf22 rfl) ?_
        refine RunL.still rfl rfl rfl (Still.load rfl rfl Tryz.isAgg22 (fun _ hs => cell_nth (hs.at (i := 3) rfl) rfl)) ?_
        refine RunL.does rfl rfl rfl (Does.appendAny (n' := g.length) (xs' := (g.flatMap encT)) (news := (g.flatMap encT)) rfl rfl rfl rfl (fun h0 => hg.base h0) (i := 0) rfl Tryz.underlying22 (by kernel_rfl : Tryz.prog.info? 35 = some Tryz.t35) (by kernel_rfl : (_ : Option _) = some (some (.agg #[.int .i64 0, .int .i64 0, .int .i64 0, .int .i64 0, .int .i64 0, .int .i64 0, .int .i64 0, .int .i64 0, .int .i64 0, .int .i64 0, .int .i64 0, .int .i64 0, .int .i64 0, .int .i64 0, .int .i64 0, .int .i64 0, .int .i64 0, .int .i64 0, .int .i64 0, .int .i64 0]), 20, 160)) rfl rfl (fun w hs => hg.cells.base0 hs) (flat_len encT_len _) (encT_one _) (by omega) (by omega) (Nat.zero_add _) (rfl)) (fun v36 hv36 => ?_)
        refine RunL.know (fun _ hs => own_shape (hs.own (i := 0) rfl)) (fun hsh => ?_)
        obtain ⟨xb, xc, hvv, _⟩ := hsh
        subst hvv
        refine RunL.still rfl rfl rfl (Still.build_1 (fun x0_0 => .agg #[x0_0]) rfl rfl (fun _ => by kernel_rfl)) ?_
        refine RunL.grows rfl rfl rfl (Grows.alloc rfl Tryz.zeroValue24) (fun b11 _ => ?_)
        refine RunL.does0 rfl rfl (Does.store rfl rfl rfl (i := 0) rfl Tryz.sizeOf24 rfl (rfl) rfl) (fun _ _ => ?_)
        refine RunL.conv (fun _ hs => hs.re 0 rfl (show _ = HL.obj b11 (.cells #[.slice xb g.length xc] 24 (0, 0)) from rfl)) ?_
        refine RunL.nil ?_
        refine Ends.then ?_
        refine RunC.seq ?_
        refine RunC.region ?_
        refine RunL.grows rfl rfl rfl (Grows.empty rfl Tryz.underlying22 Tryz.sizeOf35 Tryz.zeroValue35) (fun b38 _ => ?_)
        refine RunL.still rfl rfl rfl (Still.fieldAddrL (off := 0) (off' := 0) rfl rfl Tryz.underlying24 rfl Tryz.sizeOf22 rfl) ?_
        refine RunL.still rfl rfl rfl (Still.load rfl rfl Tryz.isAgg22 (fun _ hs => cell_nth (hs.at (i := 4) rfl) rfl)) ?_
        refine RunL.does rfl rfl rfl (Does.appendAny (n' := h.length) (xs' := (h.flatMap encT)) (news := (h.flatMap encT)) rfl rfl rfl rfl (fun h0 => hh.base h0) (i := 0) rfl Tryz.underlying22 (by kernel_rfl : Tryz.prog.info? 35 = some Tryz.t35) (by kernel_rfl : (_ : Option _) = some (some (.agg #[.int .i64 0, .int .i64 0, .int .i64 0, .int .i64 0, .int .i64 0, .int .i64 0, .int .i64 0, .int .i64 0, .int .i64 0, .int .i64 0, .int .i64 0, .int .i64 0, .int .i64 0, .int .i64 0, .int .i64 0, .int .i64 0, .int .i64 0, .int .i64 0, .int .i64 0, .int .i64 0]), 20, 160)) rfl rfl (fun w hs => hh.cells.base0 hs) (flat_len encT_len _) (encT_one _) (by omega) (by omega) (Nat.zero_add _) (rfl)) (fun v41 hv41 => ?_)
        refine RunL.know (fun _ hs => own_shape (hs.own (i := 0) rfl)) (fun hsh => ?_)
        obtain ⟨yb, yc, hvv, _⟩ := hsh
        subst hvv
        refine RunL.still rfl rfl rfl (Still.build_1 (fun x0_0 => .agg #[x0_0]) rfl rfl (fun _ => by kernel_rfl)) ?_
        refine RunL.grows rfl rfl rfl (Grows.alloc rfl Tryz.zeroValue24) (fun b12 _ => ?_)
        refine RunL.does0 rfl rfl (Does.store rfl rfl rfl (i := 0) rfl Tryz.sizeOf24 rfl (rfl) rfl) (fun _ _ => ?_)
        refine RunL.conv (fun _ hs => hs.re 0 rfl (show _ = HL.obj b12 (.cells #[.slice yb h.length yc] 24 (0, 0)) from rfl)) ?_
        refine RunL.nil ?_
        refine Ends.then ?_
        refine RunC.seq ?_
        refine RunC.region ?_
        refine RunL.grows rfl rfl rfl (Grows.empty rfl Tryz.underlying36 Tryz.sizeOf3 Tryz.zeroValue3) (fun b43 _ => ?_)
        refine RunL.still rfl rfl rfl (Still.move rfl rfl) ?_
        refine RunL.does rfl rfl rfl (Does.appendAny (n' := xs.length) (xs' := (ints xs)) (news := (ints xs)) rfl rfl rfl rfl (fun h0 => hx.base h0) (i := 0) rfl Tryz.underlying36 (by kernel_rfl : Tryz.prog.info? 3 = some Tryz.t3) (by kernel_rfl : (_ : Option _) = some (some (.int .i64 0), 1, 8)) rfl rfl (fun w hs => hx.cell.base0 hs) (by rw [length_ints, Nat.mul_one]) (ints_one _) (by omega) (by omega) (Nat.zero_add _) (rfl)) (fun v45 hv45 => ?_)
        refine RunL.know (fun _ hs => own_shape (hs.own (i := 0) rfl)) (fun hsh => ?_)
        obtain ⟨lb, lc, hvv, _⟩ := hsh
        subst hvv
        refine RunL.still rfl rfl rfl (Still.assign rfl rfl) ?_
        refine RunL.nil ?_
        refine Ends.then ?_
        refine RunC.seq ?_
        refine RunC.region ?_
        refine RunL.grows rfl rfl rfl (Grows.empty rfl Tryz.underlying43 Tryz.sizeOf32 Tryz.zeroValue32) (fun b46 _ => ?_)
        refine RunL.still rfl rfl rfl (Still.move rfl rfl) ?_
        refine RunL.does rfl rfl rfl (Does.appendAny (n' := ps.length) (xs' := (ps.flatMap encP)) (news := (ps.flatMap encP)) rfl rfl rfl rfl (fun h0 => hp.base h0) (i := 0) rfl Tryz.underlying43 (by kernel_rfl : Tryz.prog.info? 32 = some Tryz.t32) (by kernel_rfl : (_ : Option _) = some (some (.agg #[.int .i64 0, .int .i64 0, .int .i64 0, .int .i64 0]), 4, 32)) rfl rfl (fun w hs => hp.cells.base0 hs) (flat_len encP_len _) (encP_one _) (by omega) (by omega) (Nat.zero_add _) (rfl)) (fun v48 hv48 => ?_)
        refine RunL.know (fun _ hs => own_shape (hs.own (i := 0) rfl)) (fun hsh => ?_)
        obtain ⟨mb, mc, hvv, _⟩ := hsh
        subst hvv
        refine RunL.still rfl rfl rfl (Still.assign rfl rfl) ?_
        refine RunL.nil ?_
        refine Ends.then ?_
        refine RunC.seq ?_
        refine RunC.region ?_
        refine RunL.still rfl rfl rfl (Still.loads rfl rfl Tryz.isAgg24 Tryz.sizeOf24 (vs := [_]) rfl (fun _ hs => cells_nth (hs.at (i := 4) rfl) ⟨rfl, trivial⟩)) ?_
        refine RunL.grows rfl rfl rfl (Grows.call (vs := #[_]) rfl rfl Tryz.call14 (fun w hs => gives_any (gl_Check xb _ xc g w (GluAt.of_ownG (q := (xb, xc)) (g := g) (by omega) (hs.at (i := 5) rfl))))) (fun _ _ => ?_)
        refine RunL.nil ?_
        refine Ends.then ?_
        refine RunC.seq ?_
        refine RunC.region ?_
        refine RunL.still rfl rfl rfl (Still.loads rfl rfl Tryz.isAgg24 Tryz.sizeOf24 (vs := [_]) rfl (fun _ hs => cells_nth (hs.at (i := 4) rfl) ⟨rfl, trivial⟩)) ?_
        refine RunL.grows rfl rfl rfl (Grows.call (vs := #[_]) rfl rfl Tryz.call26 (fun w hs => any_Text xb _ xc g w (GluAt.of_ownG (q := (xb, xc)) (g := g) (by omega) (hs.at (i := 5) rfl)) (he.sym hs))) (fun _ _ => ?_)
        refine RunL.nil ?_
        refine Ends.then ?_
        refine RunC.seq ?_
        refine RunC.region ?_
        refine RunL.still rfl rfl rfl (Still.loads rfl rfl Tryz.isAgg24 Tryz.sizeOf24 (vs := [_]) rfl (fun _ hs => cells_nth (hs.at (i := 4) rfl) ⟨rfl, trivial⟩)) ?_
        refine RunL.grows rfl rfl rfl (Grows.call (vs := #[_]) rfl rfl Tryz.call16 (fun w hs => any_Parts xb _ xc g w (GluAt.of_ownG (q := (xb, xc)) (g := g) (by omega) (hs.at (i := 5) rfl)))) (fun _ _ => ?_)
        refine RunL.nil ?_
        refine Ends.then ?_
        refine RunC.seq ?_
        refine RunC.region ?_
        refine RunL.still rfl rfl rfl (Still.loads rfl rfl Tryz.isAgg24 Tryz.sizeOf24 (vs := [_]) rfl (fun _ hs => cells_nth (hs.at (i := 4) rfl) ⟨rfl, trivial⟩)) ?_
        refine RunL.still rfl rfl rfl (Still.move rfl rfl) ?_
        refine RunL.grows rfl rfl rfl (Grows.call (vs := #[_, _]) rfl rfl Tryz.call33 (fun w hs => any_Part xb _ xc g k w (GluAt.of_ownG (q := (xb, xc)) (g := g) (by omega) (hs.at (i := 5) rfl)))) (fun _ _ => ?_)
        refine RunL.nil ?_
        refine Ends.then ?_
        refine RunC.seq ?_
        refine RunC.region ?_
        refine RunL.still rfl rfl rfl (Still.loads rfl rfl Tryz.isAgg24 Tryz.sizeOf24 (vs := [_]) rfl (fun _ hs => cells_nth (hs.at (i := 4) rfl) ⟨rfl, trivial⟩)) ?_
        refine RunL.grows rfl rfl rfl (Grows.call (vs := #[_]) rfl rfl Tryz.call15 (fun w hs => any_Orient xb _ xc g w (GluAt.of_ownG (q := (xb, xc)) (g := g) (by omega) (hs.at (i := 5) rfl)))) (fun _ _ => ?_)
        refine RunL.nil ?_
        refine Ends.then ?_
        refine RunC.seq ?_
        refine RunC.region ?_
        refine RunL.still rfl rfl rfl (Still.loads rfl rfl Tryz.isAgg24 Tryz.sizeOf24 (vs := [_]) rfl (fun _ hs => cells_nth (hs.at (i := 4) rfl) ⟨rfl, trivial⟩)) ?_
        refine RunL.still rfl rfl rfl (Still.move rfl rfl) ?_
        refine RunL.still rfl rfl rfl (Still.move rfl rfl) ?_
        refine RunL.grows rfl rfl rfl (Grows.call (vs := #[_, _, _]) rfl rfl Tryz.call19 (fun w hs => gives_any (gl_RenumberA xb _ xc g lb _ lc xs mb _ mc ps w (GluAt.of_ownG (q := (xb, xc)) (g := g) (by omega) (hs.at (i := 5) rfl)) (LisAt.of_own rfl (by omega) (hs.at (i := 1) rfl)) (PermsAt.of_own rfl (by omega) (hs.at (i := 0) rfl))))) (fun _ _ => ?_)
        refine RunL.nil ?_
        refine Ends.then ?_
        refine RunC.seq ?_
        refine RunC.region ?_
        refine RunL.still rfl rfl rfl (Still.loads rfl rfl Tryz.isAgg24 Tryz.sizeOf24 (vs := [_]) rfl (fun _ hs => cells_nth (hs.at (i := 4) rfl) ⟨rfl, trivial⟩)) ?_
        refine RunL.still rfl rfl rfl (Still.loads rfl rfl Tryz.isAgg24 Tryz.sizeOf24 (vs := [_]) rfl (fun _ hs => cells_nth (hs.at (i := 2) rfl) ⟨rfl, trivial⟩)) ?_
        refine RunL.grows rfl rfl rfl (Grows.call (vs := #[_, _]) rfl rfl Tryz.call22 (fun w hs => gives_any (gl_UnionA xb _ xc g yb _ yc h w (GluAt.of_ownG (q := (xb, xc)) (g := g) (by omega) (hs.at (i := 5) rfl)) (GluAt.of_ownG (q := (yb, yc)) (g := h) (by omega) (hs.at (i := 3) rfl)) (by omega) (by omega)))) (fun _ _ => ?_)
        refine RunL.nil ?_
        refine Ends.then ?_
        refine RunC.seq ?_
        refine RunC.region ?_
        refine RunL.still rfl rfl rfl (Still.loads rfl rfl Tryz.isAgg24 Tryz.sizeOf24 (vs := [_]) rfl (fun _ hs => cells_nth (hs.at (i := 4) rfl) ⟨rfl, trivial⟩)) ?_
        refine RunL.grows rfl rfl rfl (Grows.call (vs := #[_]) rfl rfl Tryz.call12 (fun w hs => gives_any (gl_TwofoldA xb _ xc g w (GluAt.of_ownG (q := (xb, xc)) (g := g) (by omega) (hs.at (i := 5) rfl)) (by omega)))) (fun _ _ => ?_)
        refine RunL.nil ?_
        refine Ends.then ?_
        refine RunC.seq ?_
        refine RunC.region ?_
        refine RunL.still rfl rfl rfl (Still.loads rfl rfl Tryz.isAgg24 Tryz.sizeOf24 (vs := [_]) rfl (fun _ hs => cells_nth (hs.at (i := 4) rfl) ⟨rfl, trivial⟩)) ?_
        refine RunL.grows rfl rfl rfl (Grows.call (vs := #[_]) rfl rfl Tryz.call13 (fun w hs => gives_any (gl_DoubleA xb _ xc g w (GluAt.of_ownG (q := (xb, xc)) (g := g) (by omega) (hs.at (i := 5) rfl)) (by omega)))) (fun _ _ => ?_)
        refine RunL.nil ?_
        refine Ends.then ?_
        refine RunC.seq ?_
        refine RunC.region ?_
        refine RunL.still rfl rfl rfl (Still.loads rfl rfl Tryz.isAgg24 Tryz.sizeOf24 (vs := [_]) rfl (fun _ hs => cells_nth (hs.at (i := 4) rfl) ⟨rfl, trivial⟩)) ?_
        refine RunL.still rfl rfl rfl (Still.loads rfl rfl Tryz.isAgg24 Tryz.sizeOf24 (vs := [_]) rfl (fun _ hs => cells_nth (hs.at (i := 2) rfl) ⟨rfl, trivial⟩)) ?_
        refine RunL.grows rfl rfl rfl (Grows.call (vs := #[_, _]) rfl rfl Tryz.call27 (fun w hs => gives_any (gl_Same xb _ xc g yb _ yc h w (GluAt.of_ownG (q := (xb, xc)) (g := g) (by omega) (hs.at (i := 5) rfl)) (GluAt.of_ownG (q := (yb, yc)) (g := h) (by omega) (hs.at (i := 3) rfl))))) (fun _ _ => ?_)
        refine RunL.nil ?_
        refine Ends.then ?_
        refine RunC.seq ?_
        refine RunC.seq ?_
        refine RunC.region ?_
        refine RunL.still rfl rfl rfl (Still.assign rfl rfl) ?_
        refine RunL.nil ?_
        refine Ends.then ?_
        refine RunC.block ?_
        refine RunC.loop2 (γ := Nat) (keep := [(2, _), (3, _), (5, _), (6, _), (11, _), (12, _), (13, _), (14, _)]) (hkeep := [_, _, _, _, _, _, _, _, _]) (fun i => i ≤ ps.length) (fun i => ps.length - i) (fun i => [(15, iv i)]) (fun i => []) 0 (by omega) (Fr.Sub.cons rfl (Fr.Sub.nil _)) (Fr.Sub.cons rfl (Fr.Sub.cons rfl (Fr.Sub.cons rfl (Fr.Sub.cons rfl (Fr.Sub.cons rfl (Fr.Sub.cons rfl (Fr.Sub.cons rfl (Fr.Sub.cons rfl (Fr.Sub.nil _))))))))) (HSub.pick 0 rfl (HSub.pick 0 rfl (HSub.pick 0 rfl (HSub.pick 0 rfl (HSub.pick 0 rfl (HSub.pick 0 rfl (HSub.pick 0 rfl (HSub.pick 0 rfl (HSub.pick 0 rfl (HSub.nil _)))))))))) ?_
        rintro i hi
        refine RunC.seq ?_
        refine RunC.seq ?_
        refine RunC.region ?_
        refine RunL.still rfl rfl rfl (Still.move rfl rfl) ?_
        refine RunL.still rfl rfl rfl (Still.move rfl rfl) ?_
        refine RunL.still rfl rfl rfl (Still.lenOwn rfl rfl Tryz.underlying43 (fun _ hs => hs.own (i := 0) rfl)) ?_
        refine RunL.still rfl rfl rfl (Still.lss rfl rfl rfl) ?_
        refine RunL.nil ?_
        refine Ends.then ?_
        refine RunC.cond rfl (fun h77 => ?_) (fun h77 => ?_)
        · have h77 := of_decide_eq_true h77
          obtain ⟨p, hpi⟩ := get_of_lt (l := ps) (i := i) (by omega)
          refine RunC.skip ?_
          refine Ends.then ?_
          refine RunC.seq ?_
          refine RunC.block ?_
          refine RunC.seq ?_
          refine RunC.draw 8 (.still 0 (.still 1 (.still 2 (.still 3 (.still 4 (.still 5 (.still 6 (.still 7 .done)))))))) (by kernel_rfl) (by kernel_rfl) ?_
          refine RunG.still rfl rfl rfl rfl (Still.move rfl rfl) ?_
          refine RunG.still rfl rfl rfl rfl (Still.move rfl rfl) ?_
          refine RunG.still rfl rfl rfl rfl (Still.indexOwn rfl rfl rfl Tryz.underlying43 Tryz.sizeOf32 (fun _ hs => hs.own (i := 0) rfl) (by omega)) ?_
          refine RunG.still rfl rfl rfl rfl (Still.loads rfl rfl Tryz.isAgg32 Tryz.sizeOf32 (vs := [iv p.a0, iv p.a1, iv p.a2, iv p.a3]) rfl (fun w hs => own_cells (hs.own (i := 0) rfl) (fun j u h => flat_get encP_len hpi h))) ?_
          refine RunG.still rfl rfl rfl rfl (Still.move rfl rfl) ?_
          refine RunG.still rfl rfl rfl rfl (Still.move rfl rfl) ?_
          refine RunG.still rfl rfl rfl rfl (Still.indexSliceN rfl rfl rfl Tryz.underlying43 Tryz.sizeOf32 (hp.base (by omega)) (by omega)) ?_
          refine RunG.still rfl rfl rfl rfl (Still.loads rfl rfl Tryz.isAgg32 Tryz.sizeOf32 (vs := [iv p.a0, iv p.a1, iv p.a2, iv p.a3]) rfl (fun _ hs => (hp.sym hs).cell i p hpi)) ?_
          refine RunG.done ?_
          show RunL _ _ _ [_] _ _
          refine RunL.still rfl rfl rfl (Still.neqAgg rfl rfl rfl Tryz.eqGuardType32 (fun _ => eqP _ _ _ _ _ _ _ _ _ _)) ?_
          refine RunL.nil ?_
          refine Ends.then ?_
          refine RunC.cond rfl (fun h88 => ?_) (fun h88 => ?_)
          · skip
            simp at h88
          · skip
            refine RunC.skip ?_
            refine Ends.block ?_
            refine Ends.then ?_
            refine RunC.region ?_
            refine RunL.still rfl rfl rfl (Still.move rfl rfl) ?_
            refine RunL.still rfl rfl rfl (Still.add rfl rfl rfl (fits64 (by omega) (by omega))) ?_
            refine RunL.still rfl rfl rfl (Still.assign rfl rfl) ?_
            refine RunL.nil ?_
            refine Ends.again (i + 1) ?_ ?_ (Fr.Sub.app ?_ ?_) ?_
            · show _; omega
            · show _ < _; omega
            · exact Fr.Sub.cons rfl (Fr.Sub.nil _)
            · exact Fr.Sub.cons rfl (Fr.Sub.cons rfl (Fr.Sub.cons rfl (Fr.Sub.cons rfl (Fr.Sub.cons rfl (Fr.Sub.cons rfl (Fr.Sub.cons rfl (Fr.Sub.cons rfl (Fr.Sub.nil _))))))))
            · exact HSub.pick 0 rfl (HSub.pick 0 rfl (HSub.pick 0 rfl (HSub.pick 0 rfl (HSub.pick 0 rfl (HSub.pick 0 rfl (HSub.pick 0 rfl (HSub.pick 0 rfl (HSub.pick 0 rfl (HSub.nil _)))))))))
        · have h77 := of_decide_eq_false h77
          obtain rfl : i = ps.length := by omega
          refine RunC.exit ?_
          refine Ends.then_exit ?_
          refine Ends.then_exit ?_
          refine Ends.block_exit ?_
          refine Ends.then ?_
          refine RunC.seq ?_
          refine RunC.region ?_
          refine RunL.still rfl rfl rfl (Still.loads rfl rfl Tryz.isAgg24 Tryz.sizeOf24 (vs := [_]) rfl (fun _ hs => cells_nth (hs.at (i := 4) rfl) ⟨rfl, trivial⟩)) ?_
          refine RunL.still rfl rfl rfl (Still.loads rfl rfl Tryz.isAgg24 Tryz.sizeOf24 (vs := [_]) rfl (fun _ hs => cells_nth (hs.at (i := 8) rfl) ⟨rfl, trivial⟩)) ?_
          refine RunL.grows rfl rfl rfl (Grows.call (vs := #[_, _]) rfl rfl Tryz.call20 (fun w hs => rf_Same xb _ xc g gb GA gc g w (GluAt.of_ownG (q := (xb, xc)) (g := g) (by omega) (hs.at (i := 5) rfl)) (hg.sym hs))) (fun _ _ => ?_)
          refine RunL.again (t := 91) (u := .bool true) rfl (congrArg Value.bool (decide_eq_true rfl)) ?_
          refine RunL.still rfl rfl rfl (Still.move rfl rfl) ?_
          refine RunL.still rfl rfl rfl (Still.loads rfl rfl Tryz.isAgg24 Tryz.sizeOf24 (vs := [_]) rfl (fun _ hs => cells_nth (hs.at (i := 2) rfl) ⟨rfl, trivial⟩)) ?_
          refine RunL.still rfl rfl rfl (Still.loads rfl rfl Tryz.isAgg24 Tryz.sizeOf24 (vs := [_]) rfl (fun _ hs => cells_nth (hs.at (i := 7) rfl) ⟨rfl, trivial⟩)) ?_
          refine RunL.grows rfl rfl rfl (Grows.call (vs := #[_, _]) rfl rfl Tryz.call20 (fun w hs => rf_Same yb _ yc h hb HA hc h w (GluAt.of_ownG (q := (yb, yc)) (g := h) (by omega) (hs.at (i := 3) rfl)) (hh.sym hs))) (fun _ _ => ?_)
          refine RunL.again (t := 95) (u := .bool true) rfl (congrArg Value.bool (decide_eq_true rfl)) ?_
          refine RunL.still rfl rfl rfl (Still.pickT rfl rfl rfl) ?_
          refine RunL.still rfl rfl rfl (Still.move rfl rfl) ?_
          refine RunL.still rfl rfl rfl (Still.move rfl rfl) ?_
          refine RunL.still rfl rfl rfl (Still.move rfl rfl) ?_
          refine RunL.grows rfl rfl rfl (Grows.call (vs := #[_, _]) rfl rfl Tryz.call31 (fun w hs => rf_SameInts (.slice lb xs.length lc) (lisV ob oc xs) xs xs w (own_shape (hs.own (i := 1) rfl)) (own_all (hs.own (i := 1) rfl)) hxl hx.shape ((hx.sym hs).cells _) hxl)) (fun _ _ => ?_)
          refine RunL.again (t := 100) (u := .bool true) rfl (congrArg Value.bool (decide_eq_true rfl)) ?_
          refine RunL.still rfl rfl rfl (Still.pickT rfl rfl rfl) ?_
          refine RunL.still rfl rfl rfl (Still.assign rfl rfl) ?_
          refine RunL.nil ?_
          refine Ends.then ?_
          refine RunC.ret ?_
          refine Ends.leave (.inl rfl) (fun _ _ ok => results1 Tryz.results8 (Holds.tmp rfl) ok) (fun w4 hs => ?_)
          exact Ret.intro () trivial rfl (HSub.nil _) hs

end Go.Proofs
/- GlueStays: for all gluings, lists and numbers, valid or not, the statement's function returns true and changes nothing. No condition. -/
namespace Go.Proofs.YtbnfcbmpgjmhmaaGreatDoor
open Go Go.V Go.ChangeShapes Go.WideShapes Go.ChangeAt Go.WideElems Go.RowKit
theorem own : ownKnob Tryz.prog.godebug = none := by kernel_rfl
theorem laidOut : laidOutB Tryz.prog = true := by kernel_rfl
set_option maxRecDepth 100000 in
theorem door_met (os : Os) (args : Array Value) : laidMetH Tryz.prog laidT ((World.laidAll Tryz.prog os laidT).forCall (fun _ _ => 0) ⟨#[], args, []⟩).memory := by
  rw [MakeChecks.laidMetH_plain _ _ _ laidT_plain]
  exact laidMet_laidAll _ (by kernel_rfl) (by kernel_rfl)
set_option maxRecDepth 100000 in
theorem lifted (os : Os) (started : os.Started) (H : Type) (enc : TypeId × Value → H) :
    ReturnsInHanded {} Tryz.checked os 8 .any (fun w args => (Rows.glueStaysSpec.pre enc Tryz.prog Tryz.f8 [] false w args ∧ laidMetH Tryz.prog laidT w) ∧ sizedMet enc Tryz.prog Tryz.f8 (OpenSpec.ofChange Rows.glueStaysSpec) false w args)
      (Rows.glueStaysSpec.post enc Tryz.prog Tryz.f8 false true false false) := by
  refine wrap_and_shaped (C := Tryz.checked) (X := fun w _ => laidMetH Tryz.prog laidT w) (fun _ _ _ hh h => h.of_heap hh) own started (by kernel_rfl) Tryz.func8
    (ChangeSpec.witness_shaped (enc := enc) (C := Tryz.checked) (os := os) (X := fun w _ => laidMetH Tryz.prog laidT w) false (World.laidAll Tryz.prog os laidT) #[.agg #[.slice none 0 0], .agg #[.slice none 0 0], .slice none 0 0, .slice none 0 0, .int .i64 0] 8 (World.laidAll_os _ _ _) (World.shaped_of_ZipB (by kernel_rfl) (by kernel_rfl)) (by kernel_rfl) (by kernel_rfl) (by kernel_rfl) (door_met os _)) ?_
  intro W base args ds gs before hval0 hW hL hSh
  have hE : Env W := env_of_laid hL hSh
  have hval : ∀ (j : Nat) t v, Tryz.f8.params[j]? = some t → args[j]? = some v → Value.okWide Tryz.prog W .any base t v := hval0
  have hW' := hW
  have hlt := hW.lt
  obtain ⟨p, q, hA0, hV, rfl, hfz, hnd⟩ := hW
  have hA : DataW.TrodAll enc Tryz.prog W 0 (fun _ => true) true Tryz.f8.params.toList args.toList ds p := hA0
  rw [Tryz.params8] at hA hval
  obtain ⟨v0, v1, v2, v3, v4, d0, d1, d2, d3, d4, p0, p1, p2, p3, p4, rfl, rfl, rfl, h0, h1, h2, h3, h4⟩ := trodAll_five hA
  obtain ⟨rfl, rfl⟩ := trodVars_none hV
  obtain ⟨bs0, A0, cap0, x0, rfl, m0⟩ := open_glu (hval 0 24 v0 rfl rfl) h0
  obtain ⟨bs1, A1, cap1, x1, rfl, m1⟩ := open_glu (hval 1 24 v1 rfl rfl) h1
  obtain ⟨bs2, A2, cap2, x2, rfl, m2⟩ := open_lis (hval 2 36 v2 rfl rfl) h2
  obtain ⟨bs3, A3, cap3, x3, rfl, m3⟩ := open_perms (hval 3 43 v3 rfl rfl) h3
  obtain ⟨x4, rfl, _⟩ := open_num (hval 4 3 v4 rfl rfl) h4
  refine (lw_GlueStays bs0 A0 cap0 x0 bs1 A1 cap1 x1 bs2 A2 cap2 x2 bs3 A3 cap3 x3 x4 W hE m0 m1 m2 m3).mono fun e W' hR => ?_
  obtain ⟨_, _, rfl, hs⟩ := hR
  have hb : RowKit.Below W.heap.size W W' := hs.old.below
  refine ⟨_, rfl, _, _, _, [], p0 ++ p1 ++ p2 ++ p3 ++ p4, [], hW', trodAll_mk1 (shut_bool Tryz.underlying4 _), ?_, rfl, hb.frame _, fun h => by cases h⟩
  have k0 := Below.trod laidOut (by kernel_rfl) (of_decide_eq_true (by kernel_rfl)) h0 hb (fun x hx => hlt x (by simp [hx]))
  have k1 := Below.trod laidOut (by kernel_rfl) (of_decide_eq_true (by kernel_rfl)) h1 hb (fun x hx => hlt x (by simp [hx]))
  have k2 := Below.trod laidOut (by kernel_rfl) (of_decide_eq_true (by kernel_rfl)) h2 hb (fun x hx => hlt x (by simp [hx]))
  have k3 := Below.trod laidOut (by kernel_rfl) (of_decide_eq_true (by kernel_rfl)) h3 hb (fun x hx => hlt x (by simp [hx]))
  have k4 := Below.trod laidOut (by kernel_rfl) (of_decide_eq_true (by kernel_rfl)) h4 hb (fun x hx => hlt x (by simp [hx]))
  have kk := trodAll_mk5 k0 k1 k2 k3 k4
  simp only [← List.append_assoc] at kk
  exact kk
theorem glueStays_holds : Rows.GlueStaysSaid :=
  OpenClaim.holds_of_wide 8 Tryz.f8 rfl rfl rfl rfl rfl rfl rfl ⟨rfl, rfl, rfl, rfl, rfl⟩ rfl rfl rfl rfl rfl (by kernel_rfl) Tryz.func8 (by kernel_rfl)
    (of_decide_eq_true (by kernel_rfl)) (by unfold Func.isWrapper; first | (rw [if_pos (by decide +kernel)]; kernel_rfl) | (rw [if_neg (by decide +kernel)]; exact ⟨rfl, rfl⟩))
    (fun os started H enc _ => lifted os started H enc)
end Go.Proofs.YtbnfcbmpgjmhmaaGreatDoor
