/- The reference matches two parts. -/
import Derived.Test.YtbnfcbmpgjmhmaaGreatDoorM5
import Derived.Test.YtbnfcbmpgjmhmaaGreatDoorM4
import Derived.Test.YtbnfcbmpgjmhmaaGreatDoorProg
import Derived.KernelRfl
import Derived.Test.YtbnfcbmpgjmhmaaGreatDoorM0
import Derived.Test.YtbnfcbmpgjmhmaaGreatDoorM1
import Derived.Test.YtbnfcbmpgjmhmaaGreatDoorRows
import Derived.LaidMore
import Derived.Stop.Joined
import Derived.Carry
import Derived.Lay
namespace Go.Proofs
open Go Go.V
set_option maxRecDepth 20000
theorem flatP_get {l : List P4} {s f : Nat} (hs : s < l.length) (hf : f < 4) : (l.flatMap encP)[s * 4 + f * 1]? = some (iv ((pAt l s).at f)) := by
  rw [Nat.mul_one]; exact flat_get encP_len (pAt_get hs) (encP_get _ hf)
theorem zP_cells (n : Nat) : (zeros n [iv 0, iv 0, iv 0, iv 0]).toList = (List.replicate n zP).flatMap encP := by
  simp only [zeros]
  induction n with
  | zero => rfl
  | succ n ih => rw [List.replicate_succ, List.replicate_succ, List.flatMap_cons, ← ih]; rfl
theorem mTo_none {a b : Glu} {s f : Nat} {m c : MSt} (h : mTo a b s m f = some c) (h2 : mFace a b s f c = none) : ∀ d, mTo a b s m (f + 1 + d) = none
  | 0 => by rw [Nat.add_zero, mTo, h]; exact h2
  | d + 1 => by rw [← Nat.add_assoc, mTo, mTo_none h h2 d]; rfl
theorem match_no {a b : Glu} {t u : Nat} {p : P4} {s f i k : Nat} {m c : MSt} (hs : m.q[i]? = some s) (hM : mBfs a b k i m = mBfs a b a.length 0 (mStart a b t u p)) (hk : 0 < k) (hf : f < 4) (h : mTo a b s m f = some c) (h2 : mFace a b s f c = none) : matchG a b t u p = false := by
  have h4 := mTo_none h h2 (3 - f)
  rw [show f + 1 + (3 - f) = 4 by omega] at h4
  obtain ⟨k, rfl⟩ : ∃ j, k = j + 1 := ⟨k - 1, by omega⟩
  rw [matchG, ← hM, mBfs_step hs, h4]; rfl

theorem rf_matches (ba : Option Addr) (A : Addr) (ca : Nat) (a : Glu) (bb : Option Addr) (B : Addr) (cb : Nat) (b : Glu) (t u : Nat) (p : P4) (w : World) (hga : GluAt w ba A a) (hgb : GluAt w bb B b) (ha : okG a = true) (hb : okG b = true) (ht : t < a.length) (hu : u < b.length) (hp : okP p = true) : Gives Tryz.prog 68 #[gluV ba ca a, gluV bb cb b, iv (t : Int), iv (u : Int), p4V p] w Nil (fun _ : Unit => True) (fun _ => .bool (matchG a b t u p)) (fun _ => []) := by
  have hla := hga.len
  have hlb := hgb.len
  have h1000 := okG_len ha
  have h1001 := okG_len hb
  refine fn_of_run (S := Nil) (args := [gluV ba ca a, gluV bb cb b, iv (t : Int), iv (u : Int), p4V p]) (n := 164) (L := []) Tryz.func68 rfl Tryz.ntmps68 (Nat.le_of_ble_eq_true rfl) (Sym.nil _ _) ?_
  change RunC _ _ _ [(0, _), (1, _), (2, _), (3, _), (4, _)] _
  refine RunC.seq ?_
  refine RunC.region ?_
  refine RunL.grows rfl rfl rfl (Grows.box rfl rfl) (fun b5 _ => ?_)
  refine RunL.grows rfl rfl rfl (Grows.box rfl rfl) (fun b6 _ => ?_)
  refine RunL.grows rfl rfl rfl (Grows.box rfl rfl) (fun b9 _ => ?_)
  refine RunL.still rfl rfl rfl (Still.assign rfl rfl) ?_
  refine RunL.nil ?_
  refine Ends.then ?_
  refine RunC.seq ?_
  refine RunC.region ?_
  refine RunL.still rfl rfl rfl (Still.fieldAddrL (off := 0) (off' := 0) rfl rfl Tryz.underlying24 rfl Tryz.sizeOf22 rfl) ?_
  refine RunL.still rfl rfl rfl (Still.load rfl rfl Tryz.isAgg22 (fun _ hs => cell_nth (hs.at (i := 2) rfl) rfl)) ?_
  refine RunL.still rfl rfl rfl (Still.lenSlice rfl rfl Tryz.underlying22) ?_
  refine RunL.grows rfl rfl rfl (Grows.make (n := a.length) (xs := (ints (List.replicate a.length 0))) rfl rfl rfl Tryz.underlying36 (by kernel_rfl : (_ : Option _) = some (some (.int .i64 0), 1, 8)) rfl (by omega) (by omega) (zeros_one _ _ |>.trans (ints_replicate _ _))) (fun b25 _ => ?_)
  refine RunL.still rfl rfl rfl (Still.assign rfl rfl) ?_
  refine RunL.nil ?_
  refine Ends.then ?_
  refine RunC.seq ?_
  refine RunC.region ?_
  refine RunL.still rfl rfl rfl (Still.fieldAddrL (off := 0) (off' := 0) rfl rfl Tryz.underlying24 rfl Tryz.sizeOf22 rfl) ?_
  refine RunL.still rfl rfl rfl (Still.load rfl rfl Tryz.isAgg22 (fun _ hs => cell_nth (hs.at (i := 3) rfl) rfl)) ?_
  refine RunL.still rfl rfl rfl (Still.lenSlice rfl rfl Tryz.underlying22) ?_
  refine RunL.grows rfl rfl rfl (Grows.make (n := a.length) (xs := ((List.replicate a.length zP).flatMap encP)) rfl rfl rfl Tryz.underlying43 (by kernel_rfl : (_ : Option _) = some (some (.agg #[.int .i64 0, .int .i64 0, .int .i64 0, .int .i64 0]), 4, 32)) rfl (by omega) (by omega) (by exact zP_cells _)) (fun b29 _ => ?_)
  refine RunL.still rfl rfl rfl (Still.assign rfl rfl) ?_
  refine RunL.nil ?_
  refine Ends.then ?_
  refine RunC.seq ?_
  refine RunC.seq ?_
  refine RunC.region ?_
  refine RunL.still rfl rfl rfl (Still.assign rfl rfl) ?_
  refine RunL.nil ?_
  refine Ends.then ?_
  refine RunC.block ?_
  refine RunC.loop2 (γ := Nat) (keep := [(2, _), (3, _), (5, _), (6, _), (9, _), (11, _), (12, _)]) (hkeep := [_, _, _, _]) (fun j => j ≤ a.length) (fun j => a.length - j) (fun j => [(13, iv j)]) (fun j => [HL.own 3 1 (.slice (some ⟨b25, 0, none⟩) a.length a.length) a.length (ints (negTo a.length j))]) 0 (by omega) (Fr.Sub.cons rfl (Fr.Sub.nil _)) (Fr.Sub.cons rfl (Fr.Sub.cons rfl (Fr.Sub.cons rfl (Fr.Sub.cons rfl (Fr.Sub.cons rfl (Fr.Sub.cons rfl (Fr.Sub.cons rfl (Fr.Sub.nil _)))))))) (HSub.pick 1 (by rw [negTo_zero]; rfl) (HSub.pick 0 rfl (HSub.pick 0 rfl (HSub.pick 0 rfl (HSub.pick 0 rfl (HSub.nil _)))))) ?_
  rintro j hj
  refine RunC.seq ?_
  refine RunC.seq ?_
  refine RunC.region ?_
  refine RunL.still rfl rfl rfl (Still.move rfl rfl) ?_
  refine RunL.still rfl rfl rfl (Still.move rfl rfl) ?_
  refine RunL.still rfl rfl rfl (Still.lenOwn rfl rfl Tryz.underlying36 (fun _ hs => hs.own (i := 0) rfl)) ?_
  refine RunL.still rfl rfl rfl (Still.lss rfl rfl rfl) ?_
  refine RunL.nil ?_
  refine Ends.then ?_
  refine RunC.cond rfl (fun h33 => ?_) (fun h33 => ?_)
  · have h33 := of_decide_eq_true h33
    refine RunC.skip ?_
    refine Ends.then ?_
    refine RunC.seq ?_
    refine RunC.block ?_
    refine RunC.region ?_
    refine RunL.still rfl rfl rfl (Still.move rfl rfl) ?_
    refine RunL.still rfl rfl rfl (Still.move rfl rfl) ?_
    refine RunL.still rfl rfl rfl (Still.indexOwn rfl rfl rfl Tryz.underlying36 Tryz.sizeOf3 (fun _ hs => hs.own (i := 0) rfl) (by omega)) ?_
    refine RunL.does0 rfl rfl (Does.storeOwn1 (xs' := (ints (negTo a.length (j + 1)))) rfl rfl rfl rfl (i := 0) rfl Tryz.sizeOf3 rfl (by rw [length_ints, negTo_len]; omega) ((ints_set _ _ _).trans (congrArg ints (negTo_succ (by omega))))) (fun _ _ => ?_)
    refine RunL.nil ?_
    refine Ends.block ?_
    refine Ends.then ?_
    refine RunC.region ?_
    refine RunL.still rfl rfl rfl (Still.move rfl rfl) ?_
    refine RunL.still rfl rfl rfl (Still.add rfl rfl rfl (fits64 (by omega) (by omega))) ?_
    refine RunL.still rfl rfl rfl (Still.assign rfl rfl) ?_
    refine RunL.nil ?_
    refine Ends.again (j + 1) ?_ ?_ (Fr.Sub.app ?_ ?_) ?_
    · show _; omega
    · show _ < _; omega
    · exact Fr.Sub.cons rfl (Fr.Sub.nil _)
    · exact Fr.Sub.cons rfl (Fr.Sub.cons rfl (Fr.Sub.cons rfl (Fr.Sub.cons rfl (Fr.Sub.cons rfl (Fr.Sub.cons rfl (Fr.Sub.cons rfl (Fr.Sub.nil _)))))))
    · exact HSub.pick 0 rfl (HSub.pick 0 rfl (HSub.pick 0 rfl (HSub.pick 0 rfl (HSub.pick 0 rfl (HSub.nil _)))))
  · have h33 := of_decide_eq_false h33
    obtain rfl : j = a.length := by omega
    refine RunC.conv (fun _ hs => hs.re 0 rfl (show _ = HL.own 3 1 (.slice (some ⟨b25, 0, none⟩) a.length a.length) a.length (ints (List.replicate a.length (-1))) by rw [negTo_all])) ?_
    refine RunC.exit ?_
    refine Ends.then_exit ?_
    refine Ends.then_exit ?_
    refine Ends.block_exit ?_
    refine Ends.then ?_
    refine RunC.seq ?_
    refine RunC.region ?_
    refine RunL.still rfl rfl rfl (Still.fieldAddrL (off := 0) (off' := 0) rfl rfl Tryz.underlying24 rfl Tryz.sizeOf22 rfl) ?_
    refine RunL.still rfl rfl rfl (Still.load rfl rfl Tryz.isAgg22 (fun _ hs => cell_nth (hs.at (i := 3) rfl) rfl)) ?_
    refine RunL.still rfl rfl rfl (Still.lenSlice rfl rfl Tryz.underlying22) ?_
    refine RunL.grows rfl rfl rfl (Grows.make (n := b.length) (xs := (bools (List.replicate b.length false))) rfl rfl rfl Tryz.underlying71 (by kernel_rfl : (_ : Option _) = some (some (.bool false), 1, 1)) rfl (by omega) (by omega) (zeros_one _ _ |>.trans (bools_replicate _ _))) (fun b42 _ => ?_)
    refine RunL.still rfl rfl rfl (Still.assign rfl rfl) ?_
    refine RunL.nil ?_
    refine Ends.then ?_
    refine RunC.seq ?_
    refine RunC.region ?_
    refine RunL.still rfl rfl rfl (Still.move rfl rfl) ?_
    refine RunL.still rfl rfl rfl (Still.move rfl rfl) ?_
    refine RunL.still rfl rfl rfl (Still.move rfl rfl) ?_
    refine RunL.still rfl rfl rfl (Still.indexOwn rfl rfl rfl Tryz.underlying36 Tryz.sizeOf3 (fun _ hs => hs.own (i := 1) rfl) (by omega)) ?_
    refine RunL.does0 rfl rfl (Does.storeOwn1 (xs' := (ints ((List.replicate a.length (-1)).set t u))) rfl rfl rfl rfl (i := 1) rfl Tryz.sizeOf3 rfl (by simp; omega) (ints_set _ _ _)) (fun _ _ => ?_)
    refine RunL.nil ?_
    refine Ends.then ?_
    refine RunC.seq ?_
    refine RunC.region ?_
    refine RunL.still rfl rfl rfl (Still.move rfl rfl) ?_
    refine RunL.still rfl rfl rfl (Still.move rfl rfl) ?_
    refine RunL.still rfl rfl rfl (Still.loads rfl rfl Tryz.isAgg32 Tryz.sizeOf32 (vs := [_, _, _, _]) rfl (fun _ hs => cells_nth (hs.at (i := 3) rfl) ⟨rfl, ⟨rfl, ⟨rfl, ⟨rfl, trivial⟩⟩⟩⟩)) ?_
    refine RunL.still rfl rfl rfl (Still.indexOwn rfl rfl rfl Tryz.underlying43 Tryz.sizeOf32 (fun _ hs => hs.own (i := 2) rfl) (by omega)) ?_
    refine RunL.does0 rfl rfl (Does.storeOwn (xs' := (((List.replicate a.length zP).set t p).flatMap encP)) rfl rfl rfl rfl (i := 2) rfl Tryz.sizeOf32 rfl (by decide) rfl (by rw [flat_len encP_len]; simp; omega) (fun i => flat_set encP_len (by decide) _ (by simpa using ht) i)) (fun _ _ => ?_)
    refine RunL.nil ?_
    refine Ends.then ?_
    refine RunC.seq ?_
    refine RunC.region ?_
    refine RunL.still rfl rfl rfl (Still.move rfl rfl) ?_
    refine RunL.still rfl rfl rfl (Still.move rfl rfl) ?_
    refine RunL.still rfl rfl rfl (Still.indexOwn rfl rfl rfl Tryz.underlying71 Tryz.sizeOf4 (fun _ hs => hs.own (i := 0) rfl) (by omega)) ?_
    refine RunL.does0 rfl rfl (Does.storeOwn1 (xs' := (bools ((List.replicate b.length false).set u true))) rfl rfl rfl rfl (i := 0) rfl Tryz.sizeOf4 rfl (by simp; omega) (bools_set _ _ _)) (fun _ _ => ?_)
    refine RunL.nil ?_
    refine Ends.then ?_
    refine RunC.seq ?_
    refine RunC.region ?_
    refine RunL.still rfl rfl rfl (Still.move rfl rfl) ?_
    refine RunL.grows rfl rfl rfl (Grows.slice1 rfl rfl Tryz.underlying36 Tryz.sizeOf3 rfl Tryz.zeroValue3 (by decide)) (fun b55 _ => ?_)
    refine RunL.conv (fun _ hs => Sym.obj_own (k := 1) (n := 1) hs rfl (by omega)) ?_
    refine RunL.still rfl rfl rfl (Still.assign rfl rfl) ?_
    refine RunL.nil ?_
    refine Ends.then ?_
    refine RunC.seq ?_
    refine RunC.seq ?_
    refine RunC.region ?_
    refine RunL.still rfl rfl rfl (Still.assign rfl rfl) ?_
    refine RunL.nil ?_
    refine Ends.then ?_
    refine RunC.block ?_
    refine RunC.loop2 (γ := Value × MSt × Nat × Nat) (keep := [(5, _), (6, _), (11, _), (12, _), (14, _)]) (hkeep := [_, _, _]) (fun (v, m, i, k) => MJ a b t (4 * i) m ∧ mBfs a b k i m = mBfs a b a.length 0 (mStart a b t u p) ∧ i + k = a.length) (fun (v, m, i, k) => k) (fun (v, m, i, k) => [(15, v), (16, iv i)]) (fun (v, m, i, k) => [HL.own 3 1 (.slice (some ⟨b25, 0, none⟩) a.length a.length) a.length (ints m.to), HL.own 32 4 (.slice (some ⟨b29, 0, none⟩) a.length a.length) a.length (m.by'.flatMap encP), HL.own 4 1 (.slice (some ⟨b42, 0, none⟩) b.length b.length) b.length (bools m.tk), HL.own 3 1 v m.q.length (nints m.q)]) (.slice (some ⟨b55, 0, none⟩) 1 1, mStart a b t u p, 0, a.length) ⟨MJ.start ht hu hp, rfl, by omega⟩ (Fr.Sub.cons rfl (Fr.Sub.cons rfl (Fr.Sub.nil _))) (Fr.Sub.cons rfl (Fr.Sub.cons rfl (Fr.Sub.cons rfl (Fr.Sub.cons rfl (Fr.Sub.cons rfl (Fr.Sub.nil _)))))) (HSub.pick 2 (by rfl) (HSub.pick 2 (by rfl) (HSub.pick 1 (by rfl) (HSub.pick 0 (by rfl) (HSub.pick 0 rfl (HSub.pick 0 rfl (HSub.pick 0 rfl (HSub.nil _)))))))) ?_
    rintro ⟨v, m, i, k⟩ ⟨hJ0, hM, hik⟩
    have hJ0 : MJ a b t (4 * i) m := hJ0
    have hik : i + k = a.length := hik
    have hM : mBfs a b k i m = mBfs a b a.length 0 (mStart a b t u p) := hM
    have hroom0 : m.q.length + negs m.to ≤ a.length := hJ0.pst.room
    refine RunC.seq ?_
    refine RunC.seq ?_
    refine RunC.region ?_
    refine RunL.still rfl rfl rfl (Still.move rfl rfl) ?_
    refine RunL.still rfl rfl rfl (Still.move rfl rfl) ?_
    refine RunL.still rfl rfl rfl (Still.lenOwn rfl rfl Tryz.underlying36 (fun _ hs => hs.own (i := 3) rfl)) ?_
    refine RunL.still rfl rfl rfl (Still.lss rfl rfl rfl) ?_
    refine RunL.nil ?_
    refine Ends.then ?_
    refine RunC.cond rfl (fun h59 => ?_) (fun h59 => ?_)
    · have h59 := of_decide_eq_true h59
      obtain ⟨s, hqe⟩ := get_of_lt (l := m.q) (i := i) (by omega)
      have hsN : s < a.length := hJ0.pst.mem s (List.mem_of_getElem? hqe)
      refine RunC.skip ?_
      refine Ends.then ?_
      refine RunC.seq ?_
      refine RunC.block ?_
      refine RunC.seq ?_
      refine RunC.region ?_
      refine RunL.still rfl rfl rfl (Still.move rfl rfl) ?_
      refine RunL.still rfl rfl rfl (Still.move rfl rfl) ?_
      refine RunL.still rfl rfl rfl (Still.indexOwn rfl rfl rfl Tryz.underlying36 Tryz.sizeOf3 (fun _ hs => hs.own (i := 3) rfl) (by omega)) ?_
      refine RunL.still rfl rfl rfl (Still.load rfl rfl Tryz.isAgg3 (fun w hs => own_at (hs.own (i := 3) rfl) (nints_get hqe))) ?_
      refine RunL.still rfl rfl rfl (Still.assign rfl rfl) ?_
      refine RunL.nil ?_
      refine Ends.then ?_
      refine RunC.seq ?_
      refine RunC.region ?_
      refine RunL.still rfl rfl rfl (Still.assign rfl rfl) ?_
      refine RunL.nil ?_
      refine Ends.then ?_
      refine RunC.block ?_
      refine RunC.loop2 (γ := Value × Nat × MSt) (keep := [(5, _), (6, _), (11, _), (12, _), (14, _), (16, _), (17, _)]) (hkeep := [_, _, _]) (fun (v, f, c) => f ≤ 4 ∧ mTo a b s m f = some c) (fun (v, f, c) => 4 - f) (fun (v, f, c) => [(15, v), (18, iv f)]) (fun (v, f, c) => [HL.own 3 1 (.slice (some ⟨b25, 0, none⟩) a.length a.length) a.length (ints c.to), HL.own 32 4 (.slice (some ⟨b29, 0, none⟩) a.length a.length) a.length (c.by'.flatMap encP), HL.own 4 1 (.slice (some ⟨b42, 0, none⟩) b.length b.length) b.length (bools c.tk), HL.own 3 1 v c.q.length (nints c.q)]) (v, 0, m) ⟨Nat.zero_le 4, rfl⟩ (Fr.Sub.cons rfl (Fr.Sub.cons rfl (Fr.Sub.nil _))) (Fr.Sub.cons rfl (Fr.Sub.cons rfl (Fr.Sub.cons rfl (Fr.Sub.cons rfl (Fr.Sub.cons rfl (Fr.Sub.cons rfl (Fr.Sub.cons rfl (Fr.Sub.nil _)))))))) (HSub.pick 0 rfl (HSub.pick 0 rfl (HSub.pick 0 rfl (HSub.pick 0 rfl (HSub.pick 0 rfl (HSub.pick 0 rfl (HSub.pick 0 rfl (HSub.nil _)))))))) ?_
      rintro ⟨v, f, c⟩ ⟨hf, hT⟩
      have hf : f ≤ 4 := hf
      have hT : mTo a b s m f = some c := hT
      obtain ⟨hJ, hqs⟩ := mTo_J ha hb hJ0 hqe f hf hT
      have hroom : c.q.length + negs c.to ≤ a.length := hJ.pst.room
      have hlto : c.to.length = a.length := hJ.pst.len
      have hlby := hJ.lby
      have hltk := hJ.ltk
      have hls := hJ.lab s (List.mem_of_getElem? hqs)
      have hbs := hls.2.2.1
      refine RunC.seq ?_
      refine RunC.seq ?_
      refine RunC.region ?_
      refine RunL.still rfl rfl rfl (Still.move rfl rfl) ?_
      refine RunL.still rfl rfl rfl (Still.lss rfl rfl rfl) ?_
      refine RunL.nil ?_
      refine Ends.then ?_
      refine RunC.cond rfl (fun h67 => ?_) (fun h67 => ?_)
      · have h67 := of_decide_eq_true h67
        have hf4 : f < 4 := by omega
        obtain ⟨_, hsb, hp4, hX, hY⟩ := hJ.faces ha hb (List.mem_of_getElem? hqs) hf4
        refine RunC.skip ?_
        refine Ends.then ?_
        refine RunC.seq ?_
        refine RunC.block ?_
        refine RunC.seq ?_
        refine RunC.region ?_
        refine RunL.still rfl rfl rfl (Still.fieldAddrL (off := 0) (off' := 0) rfl rfl Tryz.underlying24 rfl Tryz.sizeOf22 rfl) ?_
        refine RunL.still rfl rfl rfl (Still.load rfl rfl Tryz.isAgg22 (fun _ hs => cell_nth (hs.at (i := 6) rfl) rfl)) ?_
        refine RunL.still rfl rfl rfl (Still.move rfl rfl) ?_
        refine RunL.still rfl rfl rfl (Still.move rfl rfl) ?_
        refine RunL.still rfl rfl rfl (Still.indexSliceN rfl rfl rfl Tryz.underlying22 Tryz.sizeOf35 (hga.base (by omega)) (by omega)) ?_
        refine RunL.still rfl rfl rfl (Still.indexArrN rfl rfl rfl Tryz.underlying35 Tryz.sizeOf34 (by omega)) ?_
        refine RunL.still rfl rfl rfl (Still.loads rfl rfl Tryz.isAgg34 Tryz.sizeOf34 (vs := [iv (mX a s f).tet, iv (mX a s f).p.a0, iv (mX a s f).p.a1, iv (mX a s f).p.a2, iv (mX a s f).p.a3]) rfl (fun _ hs => (hga.sym hs).face (tAt_get hsN) hf4)) ?_
        refine RunL.grows rfl rfl rfl (Grows.alloc rfl Tryz.zeroValue34) (fun b19 _ => ?_)
        refine RunL.does0 rfl rfl (Does.store rfl rfl rfl (i := 0) rfl Tryz.sizeOf34 rfl (rfl) rfl) (fun _ _ => ?_)
        refine RunL.nil ?_
        refine Ends.then ?_
        refine RunC.seq ?_
        refine RunC.draw 16 (.still 0 (.still 1 (.still 2 (.still 3 (.still 4 (.still 5 (.still 6 (.still 7 (.still 8 (.still 9 (.still 10 (.still 11 (.still 12 (.still 13 (.still 14 (.one 15 .done)))))))))))))))) (by kernel_rfl) (by kernel_rfl) ?_
        refine RunG.still rfl rfl rfl rfl (Still.fieldAddrL (off := 0) (off' := 0) rfl rfl Tryz.underlying24 rfl Tryz.sizeOf22 rfl) ?_
        refine RunG.still rfl rfl rfl rfl (Still.load rfl rfl Tryz.isAgg22 (fun _ hs => cell_nth (hs.at (i := 6) rfl) rfl)) ?_
        refine RunG.still rfl rfl rfl rfl (Still.move rfl rfl) ?_
        refine RunG.still rfl rfl rfl rfl (Still.move rfl rfl) ?_
        refine RunG.still rfl rfl rfl rfl (Still.indexOwn rfl rfl rfl Tryz.underlying36 Tryz.sizeOf3 (fun _ hs => hs.own (i := 1) rfl) (by omega)) ?_
        refine RunG.still rfl rfl rfl rfl (Still.load rfl rfl Tryz.isAgg3 (fun w hs => own_at (hs.own (i := 1) rfl) (ints_get (getD_get' (by omega))))) ?_
        refine RunG.still rfl rfl rfl rfl (Still.move rfl rfl) ?_
        refine RunG.still rfl rfl rfl rfl (Still.move rfl rfl) ?_
        refine RunG.still rfl rfl rfl rfl (Still.move rfl rfl) ?_
        refine RunG.still rfl rfl rfl rfl (Still.indexOwn rfl rfl rfl Tryz.underlying43 Tryz.sizeOf32 (fun _ hs => hs.own (i := 2) rfl) (by omega)) ?_
        refine RunG.still rfl rfl rfl rfl (Still.indexArrN rfl rfl rfl Tryz.underlying32 Tryz.sizeOf3 (by omega)) ?_
        have hpf := okP_at hbs f
        refine RunG.still rfl rfl rfl rfl (Still.load rfl rfl Tryz.isAgg3 (fun w hs => own_at2 (hs.own (i := 2) rfl) (flatP_get (by omega) hf4))) ?_
        refine RunG.still rfl rfl rfl rfl (Still.indexSliceE (c.to.getD s 0).toNat rfl rfl rfl Tryz.underlying22 Tryz.sizeOf35 (hgb.base (by omega)) (by omega) (by omega)) ?_
        have hpf2 := okP_at hbs f
        refine RunG.still rfl rfl rfl rfl (Still.indexArrE ((pAt c.by' s).at f).toNat rfl rfl rfl Tryz.underlying35 Tryz.sizeOf34 (by omega) (by omega)) ?_
        refine RunG.still rfl rfl rfl rfl (Still.loads rfl rfl Tryz.isAgg34 Tryz.sizeOf34 (vs := [iv (mY b c s f).tet, iv (mY b c s f).p.a0, iv (mY b c s f).p.a1, iv (mY b c s f).p.a2, iv (mY b c s f).p.a3]) rfl (fun _ hs => (hgb.sym hs).face (tAt_get (by omega)) (by omega))) ?_
        refine RunG.grows rfl rfl rfl rfl (Grows.alloc rfl Tryz.zeroValue34) (fun b20 _ => ?_)
        refine RunG.done ?_
        show RunL _ _ _ [_] _ _
        refine RunL.does0 rfl rfl (Does.store rfl rfl rfl (i := 0) rfl Tryz.sizeOf34 rfl (rfl) rfl) (fun _ _ => ?_)
        refine RunL.nil ?_
        refine Ends.then ?_
        refine RunC.seq ?_
        refine RunC.seq ?_
        refine RunC.conv (fun _ hs => hs.sub (HSub.pick 0 rfl (HSub.pick 0 rfl (HSub.pick 0 rfl (HSub.pick 0 rfl (HSub.pick 0 rfl (HSub.pick 0 rfl (HSub.pick 0 rfl (HSub.pick 0 rfl (HSub.pick 0 rfl (HSub.nil _))))))))))) ?_
        refine RunC.region ?_
        refine RunL.still rfl rfl rfl (Still.fieldAddrL (off := 0) (off' := 0) rfl rfl Tryz.underlying34 rfl Tryz.sizeOf3 rfl) ?_
        refine RunL.still rfl rfl rfl (Still.load rfl rfl Tryz.isAgg3 (fun _ hs => cell_nth (hs.at (i := 1) rfl) rfl)) ?_
        refine RunL.still rfl rfl rfl (Still.lss rfl rfl rfl) ?_
        refine RunL.still rfl rfl rfl (Still.move rfl rfl) ?_
        refine RunL.split (t := 95) rfl (fun h95 => ?_) (fun h95 => ?_)
        · have h95 := of_decide_eq_true h95
          refine RunL.off rfl rfl rfl ?_
          refine RunL.off rfl rfl rfl ?_
          refine RunL.off rfl rfl rfl ?_
          refine RunL.still rfl rfl rfl (Still.pickT rfl rfl rfl) ?_
          refine RunL.nil ?_
          refine Ends.then ?_
          refine RunC.cond_true rfl ?_
          refine RunC.seq ?_
          refine RunC.seq ?_
          refine RunC.region ?_
          refine RunL.still rfl rfl rfl (Still.fieldAddrL (off := 0) (off' := 0) rfl rfl Tryz.underlying34 rfl Tryz.sizeOf3 rfl) ?_
          refine RunL.still rfl rfl rfl (Still.load rfl rfl Tryz.isAgg3 (fun _ hs => cell_nth (hs.at (i := 1) rfl) rfl)) ?_
          refine RunL.still rfl rfl rfl (Still.fieldAddrL (off := 0) (off' := 0) rfl rfl Tryz.underlying34 rfl Tryz.sizeOf3 rfl) ?_
          refine RunL.still rfl rfl rfl (Still.load rfl rfl Tryz.isAgg3 (fun _ hs => cell_nth (hs.at (i := 0) rfl) rfl)) ?_
          refine RunL.still rfl rfl rfl (Still.neq rfl rfl rfl) ?_
          refine RunL.nil ?_
          refine Ends.then ?_
          refine RunC.cond rfl (fun h104 => ?_) (fun h104 => ?_)
          · have h104 := of_decide_eq_true h104
            refine RunC.seq ?_
            refine RunC.region ?_
            refine RunL.still rfl rfl rfl (Still.assign rfl rfl) ?_
            refine RunL.nil ?_
            refine Ends.then ?_
            refine RunC.ret ?_
            refine Ends.then_ret ?_
            refine Ends.then_ret ?_
            refine Ends.block_ret ?_
            refine Ends.then_ret ?_
            refine Ends.then_ret ?_
            refine Ends.block_ret ?_
            refine Ends.block_ret ?_
            refine Ends.then_ret ?_
            refine Ends.then_ret ?_
            refine Ends.block_ret ?_
            refine Ends.then_ret ?_
            refine Ends.leave (.inl rfl) (fun _ _ ok => results1 Tryz.results68 (Holds.tmp rfl) ok) (fun w1 hs => ?_)
            exact Ret.intro () trivial (congrArg Value.bool (match_no hqe hM (by omega) hf4 hT (mFace_differ (.inl h95) h104)).symm) (HSub.nil _) hs
          · have h104 := of_decide_eq_false h104
            refine RunC.skip ?_
            refine Ends.then ?_
            refine RunC.exit ?_
            refine Ends.then_exit ?_
            refine Ends.block_exit ?_
            refine Ends.then ?_
            refine RunC.region ?_
            refine RunL.still rfl rfl rfl (Still.move rfl rfl) ?_
            refine RunL.still rfl rfl rfl (Still.add rfl rfl rfl (fits64 (by omega) (by omega))) ?_
            refine RunL.still rfl rfl rfl (Still.assign rfl rfl) ?_
            refine RunL.nil ?_
            refine Ends.again (v, f + 1, c) ?_ ?_ (Fr.Sub.app ?_ ?_) ?_
            · exact ⟨by show f + 1 ≤ 4; omega, by rw [mTo, hT]; exact mFace_free (.inl h95) (Decidable.not_not.1 h104)⟩
            · show 4 - (f + 1) < 4 - f; omega
            · exact Fr.Sub.cons rfl (Fr.Sub.cons rfl (Fr.Sub.nil _))
            · exact Fr.Sub.cons rfl (Fr.Sub.cons rfl (Fr.Sub.cons rfl (Fr.Sub.cons rfl (Fr.Sub.cons rfl (Fr.Sub.cons rfl (Fr.Sub.cons rfl (Fr.Sub.nil _)))))))
            · exact HSub.pick 2 rfl (HSub.pick 2 rfl (HSub.pick 2 rfl (HSub.pick 2 rfl (HSub.pick 2 rfl (HSub.pick 2 rfl (HSub.pick 2 rfl (HSub.nil _)))))))
        · have h95 := of_decide_eq_false h95
          refine RunL.still rfl rfl rfl (Still.fieldAddrL (off := 0) (off' := 0) rfl rfl Tryz.underlying34 rfl Tryz.sizeOf3 rfl) ?_
          refine RunL.still rfl rfl rfl (Still.load rfl rfl Tryz.isAgg3 (fun _ hs => cell_nth (hs.at (i := 0) rfl) rfl)) ?_
          refine RunL.still rfl rfl rfl (Still.lss rfl rfl rfl) ?_
          refine RunL.still rfl rfl rfl (Still.pickF rfl rfl rfl) ?_
          refine RunL.nil ?_
          refine Ends.then ?_
          refine RunC.cond rfl (fun h99 => ?_) (fun h99 => ?_)
          · have h99 := of_decide_eq_true h99
            refine RunC.seq ?_
            refine RunC.seq ?_
            refine RunC.region ?_
            refine RunL.still rfl rfl rfl (Still.fieldAddrL (off := 0) (off' := 0) rfl rfl Tryz.underlying34 rfl Tryz.sizeOf3 rfl) ?_
            refine RunL.still rfl rfl rfl (Still.load rfl rfl Tryz.isAgg3 (fun _ hs => cell_nth (hs.at (i := 1) rfl) rfl)) ?_
            refine RunL.still rfl rfl rfl (Still.fieldAddrL (off := 0) (off' := 0) rfl rfl Tryz.underlying34 rfl Tryz.sizeOf3 rfl) ?_
            refine RunL.still rfl rfl rfl (Still.load rfl rfl Tryz.isAgg3 (fun _ hs => cell_nth (hs.at (i := 0) rfl) rfl)) ?_
            refine RunL.still rfl rfl rfl (Still.neq rfl rfl rfl) ?_
            refine RunL.nil ?_
            refine Ends.then ?_
            refine RunC.cond rfl (fun h104 => ?_) (fun h104 => ?_)
            · have h104 := of_decide_eq_true h104
              refine RunC.seq ?_
              refine RunC.region ?_
              refine RunL.still rfl rfl rfl (Still.assign rfl rfl) ?_
              refine RunL.nil ?_
              refine Ends.then ?_
              refine RunC.ret ?_
              refine Ends.then_ret ?_
              refine Ends.then_ret ?_
              refine Ends.block_ret ?_
              refine Ends.then_ret ?_
              refine Ends.then_ret ?_
              refine Ends.block_ret ?_
              refine Ends.block_ret ?_
              refine Ends.then_ret ?_
              refine Ends.then_ret ?_
              refine Ends.block_ret ?_
              refine Ends.then_ret ?_
              refine Ends.leave (.inl rfl) (fun _ _ ok => results1 Tryz.results68 (Holds.tmp rfl) ok) (fun w2 hs => ?_)
              exact Ret.intro () trivial (congrArg Value.bool (match_no hqe hM (by omega) hf4 hT (mFace_differ (.inr h99) h104)).symm) (HSub.nil _) hs
            · have h104 := of_decide_eq_false h104
              refine RunC.skip ?_
              refine Ends.then ?_
              refine RunC.exit ?_
              refine Ends.then_exit ?_
              refine Ends.block_exit ?_
              refine Ends.then ?_
              refine RunC.region ?_
              refine RunL.still rfl rfl rfl (Still.move rfl rfl) ?_
              refine RunL.still rfl rfl rfl (Still.add rfl rfl rfl (fits64 (by omega) (by omega))) ?_
              refine RunL.still rfl rfl rfl (Still.assign rfl rfl) ?_
              refine RunL.nil ?_
              refine Ends.again (v, f + 1, c) ?_ ?_ (Fr.Sub.app ?_ ?_) ?_
              · exact ⟨by show f + 1 ≤ 4; omega, by rw [mTo, hT]; exact mFace_free (.inr h99) (Decidable.not_not.1 h104)⟩
              · show 4 - (f + 1) < 4 - f; omega
              · exact Fr.Sub.cons rfl (Fr.Sub.cons rfl (Fr.Sub.nil _))
              · exact Fr.Sub.cons rfl (Fr.Sub.cons rfl (Fr.Sub.cons rfl (Fr.Sub.cons rfl (Fr.Sub.cons rfl (Fr.Sub.cons rfl (Fr.Sub.cons rfl (Fr.Sub.nil _)))))))
              · exact HSub.pick 2 rfl (HSub.pick 2 rfl (HSub.pick 2 rfl (HSub.pick 2 rfl (HSub.pick 2 rfl (HSub.pick 2 rfl (HSub.pick 2 rfl (HSub.nil _)))))))
          · have h99 := of_decide_eq_false h99
            obtain ⟨hxa, hxp⟩ := hX (by omega)
            obtain ⟨hyb, hyp⟩ := hY (by omega)
            refine RunC.skip ?_
            refine Ends.then ?_
            refine RunC.seq ?_
            refine RunC.meetG (γ := Nat) (keep := [(5, _), (6, _), (11, _), (12, _), (14, _), (15, _), (16, _), (17, _), (18, _), (19, _), (20, _)]) (hkeep := [_, _, _, _, _, _, _, _, _]) (fun b21 => True) (fun b21 => [(21, ptrV b21)]) (fun b21 => [HL.obj b21 (.cells #[iv (mWant a b c s f).a0, iv (mWant a b c s f).a1, iv (mWant a b c s f).a2, iv (mWant a b c s f).a3] 32 (0, 0))]) (Fr.Sub.cons rfl (Fr.Sub.cons rfl (Fr.Sub.cons rfl (Fr.Sub.cons rfl (Fr.Sub.cons rfl (Fr.Sub.cons rfl (Fr.Sub.cons rfl (Fr.Sub.cons rfl (Fr.Sub.cons rfl (Fr.Sub.cons rfl (Fr.Sub.cons rfl (Fr.Sub.nil _)))))))))))) (HSub.pick 0 rfl (HSub.pick 0 rfl (HSub.pick 0 rfl (HSub.pick 0 rfl (HSub.pick 0 rfl (HSub.pick 0 rfl (HSub.pick 0 rfl (HSub.pick 0 rfl (HSub.pick 0 rfl (HSub.nil _)))))))))) ?_ ?_
            ·
              refine RunC.draw 12 (.still 0 (.still 1 (.still 2 (.still 3 (.still 4 (.still 5 (.still 6 (.still 7 (.two 8 (.two 9 (.two 10 (.one 11 .done) 11 (.one 10 .done)) 11 (.one 9 (.one 10 .done))) 11 (.one 8 (.one 9 (.one 10 .done)))))))))))) (by kernel_rfl) (by kernel_rfl) ?_
              refine RunG.still rfl rfl rfl rfl (Still.fieldAddrL (off := 0) (off' := 1) rfl rfl Tryz.underlying34 rfl Tryz.sizeOf32 rfl) ?_
              refine RunG.still rfl rfl rfl rfl (Still.loads rfl rfl Tryz.isAgg32 Tryz.sizeOf32 (vs := [_, _, _, _]) rfl (fun _ hs => cells_nth (hs.at (i := 0) rfl) ⟨rfl, ⟨rfl, ⟨rfl, ⟨rfl, trivial⟩⟩⟩⟩)) ?_
              refine RunG.still rfl rfl rfl rfl (Still.move rfl rfl) ?_
              refine RunG.still rfl rfl rfl rfl (Still.move rfl rfl) ?_
              refine RunG.still rfl rfl rfl rfl (Still.indexOwn rfl rfl rfl Tryz.underlying43 Tryz.sizeOf32 (fun _ hs => hs.own (i := 3) rfl) (by omega)) ?_
              refine RunG.still rfl rfl rfl rfl (Still.loads rfl rfl Tryz.isAgg32 Tryz.sizeOf32 (vs := [iv (pAt c.by' s).a0, iv (pAt c.by' s).a1, iv (pAt c.by' s).a2, iv (pAt c.by' s).a3]) rfl (fun w hs => own_cells (hs.own (i := 3) rfl) (fun j u h => flat_get encP_len (pAt_get (by omega)) h))) ?_
              refine RunG.still rfl rfl rfl rfl (Still.fieldAddrL (off := 0) (off' := 1) rfl rfl Tryz.underlying34 rfl Tryz.sizeOf32 rfl) ?_
              refine RunG.still rfl rfl rfl rfl (Still.loads rfl rfl Tryz.isAgg32 Tryz.sizeOf32 (vs := [_, _, _, _]) rfl (fun _ hs => cells_nth (hs.at (i := 1) rfl) ⟨rfl, ⟨rfl, ⟨rfl, ⟨rfl, trivial⟩⟩⟩⟩)) ?_
              refine RunG.two ?_ ?_
              ·
                refine RunG.grows rfl rfl rfl rfl (Grows.call (vs := #[_]) rfl rfl Tryz.call38 (fun w hs => rf_Inverse_ok (mX a s f).p w hxp)) (fun _ _ => ?_)
                refine RunG.two ?_ ?_
                ·
                  refine RunG.grows rfl rfl rfl rfl (Grows.call (vs := #[_, _]) rfl rfl Tryz.call37 (fun w hs => rf_Compose_ok (pAt c.by' s) (invP (mX a s f).p) w hbs (invP_ok hxp))) (fun _ _ => ?_)
                  refine RunG.two ?_ ?_
                  ·
                    refine RunG.grows rfl rfl rfl rfl (Grows.call (vs := #[_, _]) rfl rfl Tryz.call37 (fun w hs => rf_Compose_ok (mY b c s f).p (compP (pAt c.by' s) (invP (mX a s f).p)) w hyp (comp_ok hbs (invP_ok hxp)))) (fun _ _ => ?_)
                    refine RunG.grows rfl rfl rfl rfl (Grows.alloc rfl Tryz.zeroValue32) (fun b21 _ => ?_)
                    refine RunG.done ?_
                    show RunL _ _ _ [_] _ _
                    refine RunL.does0 rfl rfl (Does.store rfl rfl rfl (i := 0) rfl Tryz.sizeOf32 rfl (rfl) rfl) (fun _ _ => ?_)
                    refine RunL.nil ?_
                    exact Ends.meetG b21 trivial (Fr.Sub.cons rfl (Fr.Sub.nil _)) (Fr.Sub.cons rfl (Fr.Sub.cons rfl (Fr.Sub.cons rfl (Fr.Sub.cons rfl (Fr.Sub.cons rfl (Fr.Sub.cons rfl (Fr.Sub.cons rfl (Fr.Sub.cons rfl (Fr.Sub.cons rfl (Fr.Sub.cons rfl (Fr.Sub.cons rfl (Fr.Sub.nil _)))))))))))) (HSub.pick 0 rfl (HSub.pick 0 rfl (HSub.pick 0 rfl (HSub.pick 0 rfl (HSub.pick 0 rfl (HSub.pick 0 rfl (HSub.pick 0 rfl (HSub.pick 0 rfl (HSub.pick 0 rfl (HSub.pick 0 rfl (HSub.nil _)))))))))))
                  ·
                    refine RunG.grows rfl rfl rfl rfl (Grows.alloc rfl Tryz.zeroValue32) (fun b21 _ => ?_)
                    refine RunG.grows rfl rfl rfl rfl (Grows.call (vs := #[_, _]) rfl rfl Tryz.call37 (fun w hs => rf_Compose_ok (mY b c s f).p (compP (pAt c.by' s) (invP (mX a s f).p)) w hyp (comp_ok hbs (invP_ok hxp)))) (fun _ _ => ?_)
                    refine RunG.done ?_
                    show RunL _ _ _ [_] _ _
                    refine RunL.does0 rfl rfl (Does.store rfl rfl rfl (i := 0) rfl Tryz.sizeOf32 rfl (rfl) rfl) (fun _ _ => ?_)
                    refine RunL.nil ?_
                    exact Ends.meetG b21 trivial (Fr.Sub.cons rfl (Fr.Sub.nil _)) (Fr.Sub.cons rfl (Fr.Sub.cons rfl (Fr.Sub.cons rfl (Fr.Sub.cons rfl (Fr.Sub.cons rfl (Fr.Sub.cons rfl (Fr.Sub.cons rfl (Fr.Sub.cons rfl (Fr.Sub.cons rfl (Fr.Sub.cons rfl (Fr.Sub.cons rfl (Fr.Sub.nil _)))))))))))) (HSub.pick 0 rfl (HSub.pick 0 rfl (HSub.pick 0 rfl (HSub.pick 0 rfl (HSub.pick 0 rfl (HSub.pick 0 rfl (HSub.pick 0 rfl (HSub.pick 0 rfl (HSub.pick 0 rfl (HSub.pick 0 rfl (HSub.nil _)))))))))))
                ·
                  refine RunG.grows rfl rfl rfl rfl (Grows.alloc rfl Tryz.zeroValue32) (fun b21 _ => ?_)
                  refine RunG.grows rfl rfl rfl rfl (Grows.call (vs := #[_, _]) rfl rfl Tryz.call37 (fun w hs => rf_Compose_ok (pAt c.by' s) (invP (mX a s f).p) w hbs (invP_ok hxp))) (fun _ _ => ?_)
                  refine RunG.grows rfl rfl rfl rfl (Grows.call (vs := #[_, _]) rfl rfl Tryz.call37 (fun w hs => rf_Compose_ok (mY b c s f).p (compP (pAt c.by' s) (invP (mX a s f).p)) w hyp (comp_ok hbs (invP_ok hxp)))) (fun _ _ => ?_)
                  refine RunG.done ?_
                  show RunL _ _ _ [_] _ _
                  refine RunL.does0 rfl rfl (Does.store rfl rfl rfl (i := 0) rfl Tryz.sizeOf32 rfl (rfl) rfl) (fun _ _ => ?_)
                  refine RunL.nil ?_
                  exact Ends.meetG b21 trivial (Fr.Sub.cons rfl (Fr.Sub.nil _)) (Fr.Sub.cons rfl (Fr.Sub.cons rfl (Fr.Sub.cons rfl (Fr.Sub.cons rfl (Fr.Sub.cons rfl (Fr.Sub.cons rfl (Fr.Sub.cons rfl (Fr.Sub.cons rfl (Fr.Sub.cons rfl (Fr.Sub.cons rfl (Fr.Sub.cons rfl (Fr.Sub.nil _)))))))))))) (HSub.pick 0 rfl (HSub.pick 0 rfl (HSub.pick 0 rfl (HSub.pick 0 rfl (HSub.pick 0 rfl (HSub.pick 0 rfl (HSub.pick 0 rfl (HSub.pick 0 rfl (HSub.pick 0 rfl (HSub.pick 0 rfl (HSub.nil _)))))))))))
              ·
                refine RunG.grows rfl rfl rfl rfl (Grows.alloc rfl Tryz.zeroValue32) (fun b21 _ => ?_)
                refine RunG.grows rfl rfl rfl rfl (Grows.call (vs := #[_]) rfl rfl Tryz.call38 (fun w hs => rf_Inverse_ok (mX a s f).p w hxp)) (fun _ _ => ?_)
                refine RunG.grows rfl rfl rfl rfl (Grows.call (vs := #[_, _]) rfl rfl Tryz.call37 (fun w hs => rf_Compose_ok (pAt c.by' s) (invP (mX a s f).p) w hbs (invP_ok hxp))) (fun _ _ => ?_)
                refine RunG.grows rfl rfl rfl rfl (Grows.call (vs := #[_, _]) rfl rfl Tryz.call37 (fun w hs => rf_Compose_ok (mY b c s f).p (compP (pAt c.by' s) (invP (mX a s f).p)) w hyp (comp_ok hbs (invP_ok hxp)))) (fun _ _ => ?_)
                refine RunG.done ?_
                show RunL _ _ _ [_] _ _
                refine RunL.does0 rfl rfl (Does.store rfl rfl rfl (i := 0) rfl Tryz.sizeOf32 rfl (rfl) rfl) (fun _ _ => ?_)
                refine RunL.nil ?_
                exact Ends.meetG b21 trivial (Fr.Sub.cons rfl (Fr.Sub.nil _)) (Fr.Sub.cons rfl (Fr.Sub.cons rfl (Fr.Sub.cons rfl (Fr.Sub.cons rfl (Fr.Sub.cons rfl (Fr.Sub.cons rfl (Fr.Sub.cons rfl (Fr.Sub.cons rfl (Fr.Sub.cons rfl (Fr.Sub.cons rfl (Fr.Sub.cons rfl (Fr.Sub.nil _)))))))))))) (HSub.pick 0 rfl (HSub.pick 0 rfl (HSub.pick 0 rfl (HSub.pick 0 rfl (HSub.pick 0 rfl (HSub.pick 0 rfl (HSub.pick 0 rfl (HSub.pick 0 rfl (HSub.pick 0 rfl (HSub.pick 0 rfl (HSub.nil _)))))))))))
            · rintro b21 _
              refine Ends.then ?_
              refine RunC.seq ?_
              refine RunC.conv (fun _ hs => hs.sub (HSub.pick 0 rfl (HSub.pick 0 rfl (HSub.pick 0 rfl (HSub.pick 0 rfl (HSub.pick 0 rfl (HSub.pick 0 rfl (HSub.pick 0 rfl (HSub.pick 0 rfl (HSub.pick 0 rfl (HSub.pick 0 rfl (HSub.nil _)))))))))))) ?_
              refine RunC.region ?_
              refine RunL.still rfl rfl rfl (Still.move rfl rfl) ?_
              refine RunL.still rfl rfl rfl (Still.fieldAddrL (off := 0) (off' := 0) rfl rfl Tryz.underlying34 rfl Tryz.sizeOf3 rfl) ?_
              refine RunL.still rfl rfl rfl (Still.load rfl rfl Tryz.isAgg3 (fun _ hs => cell_nth (hs.at (i := 2) rfl) rfl)) ?_
              refine RunL.still rfl rfl rfl (Still.indexOwnI (m := (mX a s f).tet.toNat) rfl rfl rfl Tryz.underlying36 Tryz.sizeOf3 (fun _ hs => hs.own (i := 3) rfl) (by omega) (by omega)) ?_
              refine RunL.still rfl rfl rfl (Still.load rfl rfl Tryz.isAgg3 (fun w hs => own_at (hs.own (i := 3) rfl) (ints_get (getD_get' (by omega))))) ?_
              refine RunL.still rfl rfl rfl (Still.lss rfl rfl rfl) ?_
              refine RunL.nil ?_
              refine Ends.then ?_
              refine RunC.cond rfl (fun h121 => ?_) (fun h121 => ?_)
              · have h121 := of_decide_eq_true h121
                refine RunC.seq ?_
                refine RunC.seq ?_
                refine RunC.region ?_
                refine RunL.still rfl rfl rfl (Still.move rfl rfl) ?_
                refine RunL.still rfl rfl rfl (Still.fieldAddrL (off := 0) (off' := 0) rfl rfl Tryz.underlying34 rfl Tryz.sizeOf3 rfl) ?_
                refine RunL.still rfl rfl rfl (Still.load rfl rfl Tryz.isAgg3 (fun _ hs => cell_nth (hs.at (i := 1) rfl) rfl)) ?_
                refine RunL.still rfl rfl rfl (Still.indexOwnI (m := (mY b c s f).tet.toNat) rfl rfl rfl Tryz.underlying71 Tryz.sizeOf4 (fun _ hs => hs.own (i := 5) rfl) (by omega) (by omega)) ?_
                refine RunL.still rfl rfl rfl (Still.load rfl rfl Tryz.isAgg4 (fun w hs => own_at (hs.own (i := 5) rfl) (bools_get (getD_get (by omega) false)))) ?_
                refine RunL.nil ?_
                refine Ends.then ?_
                refine RunC.cond rfl (fun h126 => ?_) (fun h126 => ?_)
                · skip
                  refine RunC.seq ?_
                  refine RunC.region ?_
                  refine RunL.still rfl rfl rfl (Still.assign rfl rfl) ?_
                  refine RunL.nil ?_
                  refine Ends.then ?_
                  refine RunC.ret ?_
                  refine Ends.then_ret ?_
                  refine Ends.block_ret ?_
                  refine Ends.then_ret ?_
                  refine Ends.then_ret ?_
                  refine Ends.block_ret ?_
                  refine Ends.block_ret ?_
                  refine Ends.then_ret ?_
                  refine Ends.then_ret ?_
                  refine Ends.block_ret ?_
                  refine Ends.then_ret ?_
                  refine Ends.leave (.inl rfl) (fun _ _ ok => results1 Tryz.results68 (Holds.tmp rfl) ok) (fun w3 hs => ?_)
                  exact Ret.intro () trivial (congrArg Value.bool (match_no hqe hM (by omega) hf4 hT (mFace_taken (by omega) h121 h126)).symm) (HSub.nil _) hs
                · skip
                  refine RunC.skip ?_
                  refine Ends.then ?_
                  refine RunC.seq ?_
                  refine RunC.conv (fun _ hs => hs.sub (HSub.pick 0 rfl (HSub.pick 0 rfl (HSub.pick 0 rfl (HSub.pick 0 rfl (HSub.pick 0 rfl (HSub.pick 0 rfl (HSub.pick 0 rfl (HSub.pick 0 rfl (HSub.pick 0 rfl (HSub.pick 0 rfl (HSub.nil _)))))))))))) ?_
                  refine RunC.region ?_
                  refine RunL.still rfl rfl rfl (Still.move rfl rfl) ?_
                  refine RunL.still rfl rfl rfl (Still.fieldAddrL (off := 0) (off' := 0) rfl rfl Tryz.underlying34 rfl Tryz.sizeOf3 rfl) ?_
                  refine RunL.still rfl rfl rfl (Still.load rfl rfl Tryz.isAgg3 (fun _ hs => cell_nth (hs.at (i := 2) rfl) rfl)) ?_
                  refine RunL.still rfl rfl rfl (Still.fieldAddrL (off := 0) (off' := 0) rfl rfl Tryz.underlying34 rfl Tryz.sizeOf3 rfl) ?_
                  refine RunL.still rfl rfl rfl (Still.load rfl rfl Tryz.isAgg3 (fun _ hs => cell_nth (hs.at (i := 1) rfl) rfl)) ?_
                  refine RunL.still rfl rfl rfl (Still.indexOwnI (m := (mX a s f).tet.toNat) rfl rfl rfl Tryz.underlying36 Tryz.sizeOf3 (fun _ hs => hs.own (i := 3) rfl) (by omega) (by omega)) ?_
                  refine RunL.does0 rfl rfl (Does.storeOwn1 (xs' := (ints (c.to.set (mX a s f).tet.toNat (mY b c s f).tet))) rfl rfl rfl rfl (i := 3) rfl Tryz.sizeOf3 rfl (by simp; omega) (ints_set _ _ _)) (fun _ _ => ?_)
                  refine RunL.nil ?_
                  refine Ends.then ?_
                  refine RunC.seq ?_
                  refine RunC.region ?_
                  refine RunL.still rfl rfl rfl (Still.move rfl rfl) ?_
                  refine RunL.still rfl rfl rfl (Still.fieldAddrL (off := 0) (off' := 0) rfl rfl Tryz.underlying34 rfl Tryz.sizeOf3 rfl) ?_
                  refine RunL.still rfl rfl rfl (Still.load rfl rfl Tryz.isAgg3 (fun _ hs => cell_nth (hs.at (i := 2) rfl) rfl)) ?_
                  refine RunL.still rfl rfl rfl (Still.loads rfl rfl Tryz.isAgg32 Tryz.sizeOf32 (vs := [_, _, _, _]) rfl (fun _ hs => cells_nth (hs.at (i := 0) rfl) ⟨rfl, ⟨rfl, ⟨rfl, ⟨rfl, trivial⟩⟩⟩⟩)) ?_
                  refine RunL.still rfl rfl rfl (Still.indexOwnI (m := (mX a s f).tet.toNat) rfl rfl rfl Tryz.underlying43 Tryz.sizeOf32 (fun _ hs => hs.own (i := 4) rfl) (by omega) (by omega)) ?_
                  refine RunL.does0 rfl rfl (Does.storeOwn (xs' := ((c.by'.set (mX a s f).tet.toNat (mWant a b c s f)).flatMap encP)) rfl rfl rfl rfl (i := 4) rfl Tryz.sizeOf32 rfl (by decide) rfl (by rw [flat_len encP_len]; (try simp); omega) (fun i => flat_set encP_len (by decide) _ (by omega) i)) (fun _ _ => ?_)
                  refine RunL.nil ?_
                  refine Ends.then ?_
                  refine RunC.seq ?_
                  refine RunC.conv (fun _ hs => hs.sub (HSub.pick 0 rfl (HSub.pick 0 rfl (HSub.pick 0 rfl (HSub.pick 0 rfl (HSub.pick 0 rfl (HSub.pick 0 rfl (HSub.pick 0 rfl (HSub.pick 0 rfl (HSub.pick 0 rfl (HSub.pick 0 rfl (HSub.nil _)))))))))))) ?_
                  refine RunC.region ?_
                  refine RunL.still rfl rfl rfl (Still.move rfl rfl) ?_
                  refine RunL.still rfl rfl rfl (Still.fieldAddrL (off := 0) (off' := 0) rfl rfl Tryz.underlying34 rfl Tryz.sizeOf3 rfl) ?_
                  refine RunL.still rfl rfl rfl (Still.load rfl rfl Tryz.isAgg3 (fun _ hs => cell_nth (hs.at (i := 1) rfl) rfl)) ?_
                  refine RunL.still rfl rfl rfl (Still.indexOwnI (m := (mY b c s f).tet.toNat) rfl rfl rfl Tryz.underlying71 Tryz.sizeOf4 (fun _ hs => hs.own (i := 5) rfl) (by omega) (by omega)) ?_
                  refine RunL.does0 rfl rfl (Does.storeOwn1 (xs' := (bools (c.tk.set (mY b c s f).tet.toNat true))) rfl rfl rfl rfl (i := 5) rfl Tryz.sizeOf4 rfl (by simp; omega) (bools_set _ _ _)) (fun _ _ => ?_)
                  refine RunL.nil ?_
                  refine Ends.then ?_
                  refine RunC.region ?_
                  refine RunL.still rfl rfl rfl (Still.move rfl rfl) ?_
                  refine RunL.still rfl rfl rfl (Still.fieldAddrL (off := 0) (off' := 0) rfl rfl Tryz.underlying34 rfl Tryz.sizeOf3 rfl) ?_
                  refine RunL.still rfl rfl rfl (Still.load rfl rfl Tryz.isAgg3 (fun _ hs => cell_nth (hs.at (i := 2) rfl) rfl)) ?_
                  refine RunL.grows rfl rfl rfl (Grows.slice1 rfl rfl Tryz.underlying36 Tryz.sizeOf3 rfl Tryz.zeroValue3 (by decide)) (fun b145 _ => ?_)
                  refine RunL.does rfl rfl rfl (Does.appendTo (n' := (c.q.length + 1)) (xs' := (nints (c.q ++ [(mX a s f).tet.toNat]))) (news := [_]) rfl rfl rfl rfl (i := 7) rfl Tryz.underlying36 (by kernel_rfl : (_ : Option _) = some (some (.int .i64 0), 1, 8)) rfl rfl (fun _ hs => cells_nth (hs.at (i := 0) rfl) ⟨rfl, trivial⟩) rfl rfl (by omega) (by omega) (rfl) ((congrArg (fun z => _ ++ [iv z]) (by omega)).trans (nints_snoc _ _))) (fun v146 hv146 => ?_)
                  refine RunL.still rfl rfl rfl (Still.assign rfl rfl) ?_
                  refine RunL.nil ?_
                  refine Ends.block ?_
                  refine Ends.then ?_
                  refine RunC.region ?_
                  refine RunL.still rfl rfl rfl (Still.move rfl rfl) ?_
                  refine RunL.still rfl rfl rfl (Still.add rfl rfl rfl (fits64 (by omega) (by omega))) ?_
                  refine RunL.still rfl rfl rfl (Still.assign rfl rfl) ?_
                  refine RunL.nil ?_
                  refine Ends.again (v146, f + 1, mPut c (mX a s f).tet.toNat (mY b c s f).tet (mWant a b c s f)) ?_ ?_ (Fr.Sub.app ?_ ?_) ?_
                  · exact ⟨by show f + 1 ≤ 4; omega, by rw [mTo, hT]; exact mFace_new (by omega) h121 h126⟩
                  · show 4 - (f + 1) < 4 - f; omega
                  · exact Fr.Sub.cons rfl (Fr.Sub.cons rfl (Fr.Sub.nil _))
                  · exact Fr.Sub.cons rfl (Fr.Sub.cons rfl (Fr.Sub.cons rfl (Fr.Sub.cons rfl (Fr.Sub.cons rfl (Fr.Sub.cons rfl (Fr.Sub.cons rfl (Fr.Sub.nil _)))))))
                  · exact HSub.pick 4 rfl (HSub.pick 4 rfl (HSub.pick 4 rfl (HSub.pick 4 (by show _ = some (HL.own 3 1 v146 (c.q ++ [(mX a s f).tet.toNat]).length (nints (c.q ++ [(mX a s f).tet.toNat]))); simp only [List.length_append, List.length_singleton]; rfl) (HSub.pick 4 rfl (HSub.pick 4 rfl (HSub.pick 4 rfl (HSub.nil _)))))))
              · have h121 := of_decide_eq_false h121
                refine RunC.seq ?_
                refine RunC.conv (fun _ hs => hs.sub (HSub.pick 0 rfl (HSub.pick 0 rfl (HSub.pick 0 rfl (HSub.pick 0 rfl (HSub.pick 0 rfl (HSub.pick 0 rfl (HSub.pick 0 rfl (HSub.pick 0 rfl (HSub.pick 0 rfl (HSub.pick 0 rfl (HSub.nil _)))))))))))) ?_
                refine RunC.draw 16 (.still 0 (.still 1 (.still 2 (.still 3 (.still 4 (.still 5 (.still 6 (.still 7 (.still 8 (.still 9 (.still 10 (.still 11 (.still 12 (.still 13 (.still 14 (.still 15 .done)))))))))))))))) (by kernel_rfl) (by kernel_rfl) ?_
                refine RunG.still rfl rfl rfl rfl (Still.move rfl rfl) ?_
                refine RunG.still rfl rfl rfl rfl (Still.fieldAddrL (off := 0) (off' := 0) rfl rfl Tryz.underlying34 rfl Tryz.sizeOf3 rfl) ?_
                refine RunG.still rfl rfl rfl rfl (Still.load rfl rfl Tryz.isAgg3 (fun _ hs => cell_nth (hs.at (i := 2) rfl) rfl)) ?_
                refine RunG.still rfl rfl rfl rfl (Still.indexOwnI (m := (mX a s f).tet.toNat) rfl rfl rfl Tryz.underlying36 Tryz.sizeOf3 (fun _ hs => hs.own (i := 3) rfl) (by omega) (by omega)) ?_
                refine RunG.still rfl rfl rfl rfl (Still.load rfl rfl Tryz.isAgg3 (fun w hs => own_at (hs.own (i := 3) rfl) (ints_get (getD_get' (by omega))))) ?_
                refine RunG.still rfl rfl rfl rfl (Still.fieldAddrL (off := 0) (off' := 0) rfl rfl Tryz.underlying34 rfl Tryz.sizeOf3 rfl) ?_
                refine RunG.still rfl rfl rfl rfl (Still.load rfl rfl Tryz.isAgg3 (fun _ hs => cell_nth (hs.at (i := 1) rfl) rfl)) ?_
                refine RunG.still rfl rfl rfl rfl (Still.neq rfl rfl rfl) ?_
                refine RunG.still rfl rfl rfl rfl (Still.move rfl rfl) ?_
                refine RunG.split (t := 155) rfl (fun h155 => ?_) (fun h155 => ?_)
                · have h155 := of_decide_eq_true h155
                  refine RunG.off rfl rfl rfl rfl ?_
                  refine RunG.off rfl rfl rfl rfl ?_
                  refine RunG.off rfl rfl rfl rfl ?_
                  refine RunG.off rfl rfl rfl rfl ?_
                  refine RunG.off rfl rfl rfl rfl ?_
                  refine RunG.off rfl rfl rfl rfl ?_
                  refine RunG.off rfl rfl rfl rfl ?_
                  refine RunG.done ?_
                  show RunL _ _ _ [_] _ _
                  refine RunL.still rfl rfl rfl (Still.pickT rfl rfl rfl) ?_
                  refine RunL.nil ?_
                  refine Ends.then ?_
                  refine RunC.cond_true rfl ?_
                  refine RunC.seq ?_
                  refine RunC.region ?_
                  refine RunL.still rfl rfl rfl (Still.assign rfl rfl) ?_
                  refine RunL.nil ?_
                  refine Ends.then ?_
                  refine RunC.ret ?_
                  refine Ends.block_ret ?_
                  refine Ends.then_ret ?_
                  refine Ends.then_ret ?_
                  refine Ends.block_ret ?_
                  refine Ends.block_ret ?_
                  refine Ends.then_ret ?_
                  refine Ends.then_ret ?_
                  refine Ends.block_ret ?_
                  refine Ends.then_ret ?_
                  refine Ends.leave (.inl rfl) (fun _ _ ok => results1 Tryz.results68 (Holds.tmp rfl) ok) (fun w4 hs => ?_)
                  exact Ret.intro () trivial (congrArg Value.bool (match_no hqe hM (by omega) hf4 hT (mFace_bad (by omega) h121 (fun h => h155 h.1))).symm) (HSub.nil _) hs
                · have h155 := of_decide_eq_false h155
                  refine RunG.still rfl rfl rfl rfl (Still.move rfl rfl) ?_
                  refine RunG.still rfl rfl rfl rfl (Still.fieldAddrL (off := 0) (off' := 0) rfl rfl Tryz.underlying34 rfl Tryz.sizeOf3 rfl) ?_
                  refine RunG.still rfl rfl rfl rfl (Still.load rfl rfl Tryz.isAgg3 (fun _ hs => cell_nth (hs.at (i := 2) rfl) rfl)) ?_
                  refine RunG.still rfl rfl rfl rfl (Still.indexOwnI (m := (mX a s f).tet.toNat) rfl rfl rfl Tryz.underlying43 Tryz.sizeOf32 (fun _ hs => hs.own (i := 4) rfl) (by omega) (by omega)) ?_
                  refine RunG.still rfl rfl rfl rfl (Still.loads rfl rfl Tryz.isAgg32 Tryz.sizeOf32 (vs := [iv (pAt c.by' (mX a s f).tet.toNat).a0, iv (pAt c.by' (mX a s f).tet.toNat).a1, iv (pAt c.by' (mX a s f).tet.toNat).a2, iv (pAt c.by' (mX a s f).tet.toNat).a3]) rfl (fun w hs => own_cells (hs.own (i := 4) rfl) (fun j u h => flat_get encP_len (pAt_get (by omega)) h))) ?_
                  refine RunG.still rfl rfl rfl rfl (Still.loads rfl rfl Tryz.isAgg32 Tryz.sizeOf32 (vs := [_, _, _, _]) rfl (fun _ hs => cells_nth (hs.at (i := 0) rfl) ⟨rfl, ⟨rfl, ⟨rfl, ⟨rfl, trivial⟩⟩⟩⟩)) ?_
                  refine RunG.still rfl rfl rfl rfl (Still.neqAgg rfl rfl rfl Tryz.eqGuardType32 (fun _ => eqP _ _ _ _ _ _ _ _ _ _)) ?_
                  refine RunG.done ?_
                  show RunL _ _ _ [_] _ _
                  refine RunL.still rfl rfl rfl (Still.pickF rfl rfl rfl) ?_
                  refine RunL.nil ?_
                  refine Ends.then ?_
                  refine RunC.cond rfl (fun h163 => ?_) (fun h163 => ?_)
                  · have hw163 : ¬ pAt c.by' (mX a s f).tet.toNat = (mWant a b c s f) := fun e => bnd_t h163 (p4_eq.2 e)
                    refine RunC.seq ?_
                    refine RunC.region ?_
                    refine RunL.still rfl rfl rfl (Still.assign rfl rfl) ?_
                    refine RunL.nil ?_
                    refine Ends.then ?_
                    refine RunC.ret ?_
                    refine Ends.block_ret ?_
                    refine Ends.then_ret ?_
                    refine Ends.then_ret ?_
                    refine Ends.block_ret ?_
                    refine Ends.block_ret ?_
                    refine Ends.then_ret ?_
                    refine Ends.then_ret ?_
                    refine Ends.block_ret ?_
                    refine Ends.then_ret ?_
                    refine Ends.leave (.inl rfl) (fun _ _ ok => results1 Tryz.results68 (Holds.tmp rfl) ok) (fun w5 hs => ?_)
                    exact Ret.intro () trivial (congrArg Value.bool (match_no hqe hM (by omega) hf4 hT (mFace_bad (by omega) h121 (fun h => hw163 h.2))).symm) (HSub.nil _) hs
                  · have h163 : pAt c.by' (mX a s f).tet.toNat = (mWant a b c s f) := p4_eq.1 (bnd_f h163)
                    refine RunC.skip ?_
                    refine Ends.block ?_
                    refine Ends.then ?_
                    refine RunC.region ?_
                    refine RunL.still rfl rfl rfl (Still.move rfl rfl) ?_
                    refine RunL.still rfl rfl rfl (Still.add rfl rfl rfl (fits64 (by omega) (by omega))) ?_
                    refine RunL.still rfl rfl rfl (Still.assign rfl rfl) ?_
                    refine RunL.nil ?_
                    refine Ends.again (v, f + 1, c) ?_ ?_ (Fr.Sub.app ?_ ?_) ?_
                    · exact ⟨by show f + 1 ≤ 4; omega, by rw [mTo, hT]; exact mFace_same (by omega) h121 (Decidable.not_not.1 h155) h163⟩
                    · show 4 - (f + 1) < 4 - f; omega
                    · exact Fr.Sub.cons rfl (Fr.Sub.cons rfl (Fr.Sub.nil _))
                    · exact Fr.Sub.cons rfl (Fr.Sub.cons rfl (Fr.Sub.cons rfl (Fr.Sub.cons rfl (Fr.Sub.cons rfl (Fr.Sub.cons rfl (Fr.Sub.cons rfl (Fr.Sub.nil _)))))))
                    · exact HSub.pick 3 rfl (HSub.pick 3 rfl (HSub.pick 3 rfl (HSub.pick 3 rfl (HSub.pick 3 rfl (HSub.pick 3 rfl (HSub.pick 3 rfl (HSub.nil _)))))))
      · have h67 := of_decide_eq_false h67
        obtain rfl : f = 4 := by omega
        refine RunC.exit ?_
        refine Ends.then_exit ?_
        refine Ends.then_exit ?_
        refine Ends.block_exit ?_
        refine Ends.block ?_
        refine Ends.then ?_
        refine RunC.region ?_
        refine RunL.still rfl rfl rfl (Still.move rfl rfl) ?_
        refine RunL.still rfl rfl rfl (Still.add rfl rfl rfl (fits64 (by omega) (by omega))) ?_
        refine RunL.still rfl rfl rfl (Still.assign rfl rfl) ?_
        refine RunL.nil ?_
        obtain ⟨k, rfl⟩ : ∃ j, k = j + 1 := ⟨k - 1, by have := (List.getElem?_eq_some_iff.1 hqe).1; omega⟩
        refine Ends.again (v, c, i + 1, k) ?_ ?_ (Fr.Sub.app ?_ ?_) ?_
        · exact ⟨hJ, by rw [← hM, mBfs_step hqe, hT]; rfl, by show i + 1 + k = _; omega⟩
        · exact Nat.lt_succ_self _
        · exact Fr.Sub.cons rfl (Fr.Sub.cons rfl (Fr.Sub.nil _))
        · exact Fr.Sub.cons rfl (Fr.Sub.cons rfl (Fr.Sub.cons rfl (Fr.Sub.cons rfl (Fr.Sub.cons rfl (Fr.Sub.nil _)))))
        · exact HSub.pick 0 rfl (HSub.pick 0 rfl (HSub.pick 0 rfl (HSub.pick 0 rfl (HSub.pick 0 rfl (HSub.pick 0 rfl (HSub.pick 0 rfl (HSub.nil _)))))))
    · have h59 := of_decide_eq_false h59
      refine RunC.exit ?_
      refine Ends.then_exit ?_
      refine Ends.then_exit ?_
      refine Ends.block_exit ?_
      refine Ends.then ?_
      refine RunC.seq ?_
      refine RunC.region ?_
      refine RunL.still rfl rfl rfl (Still.assign rfl rfl) ?_
      refine RunL.nil ?_
      refine Ends.then ?_
      refine RunC.ret ?_
      refine Ends.leave (.inl rfl) (fun _ _ ok => results1 Tryz.results68 (Holds.tmp rfl) ok) (fun w6 hs => ?_)
      exact Ret.intro () trivial (congrArg Value.bool (by rw [matchG, ← hM, mBfs_done (by omega)]; rfl)) (HSub.nil _) hs

end Go.Proofs
/- The proof layer, part y: regions that draw their order, whose operations yield the same in each order: one walk. -/
namespace Go.V
open Go
section anyk
def dstOf (ops : Array Oper) (i : Nat) : Option Nat := (ops[i]?).bind (·.dst)
def slotsOf (ops : Array Oper) : List Nat := ops.toList.filterMap (·.dst)
/-- Each operation has a slot of its own; edges lead back. -/
def kOk (ops : Array Oper) : Bool :=
  Region.noSelect ops && noDefer ops && (List.range ops.size).all fun i => (dstOf ops i).isSome && ((List.range i).all fun j => !decide (dstOf ops i = dstOf ops j)) && ((ops[i]?).map fun o => o.after.all fun e => Nat.blt e.on i).getD false
structure KInv (C : Cx) (ops : Array Oper) (F0 : Fr) (L : List HL) (vals : Nat → Value) (listed : Array Bool) (a : Act) (w : World) : Prop where
  size : listed.size = ops.size
  at0 : At C.n C.D F0 a
  got : ∀ i d, i < ops.size → listed.getD i false = true → dstOf ops i = some d → a.tmps[d]? = some (vals i)
  sym : Sym C.w0 C.S L w
def KS (C : Cx) (ops : Array Oper) (F0 : Fr) (L : List HL) (vals : Nat → Value) (i : Nat) : Prop :=
  ∀ listed a w, KInv C ops F0 L vals listed a w → i ∈ Region.ready .any ops listed → ∀ K : Act → World → Prop, (∀ a' w', KInv C ops F0 L vals (listed.setIfInBounds i true) a' w' → K a' w') → wpOpIn (FW C.r) 0 C.P ops NoQ i K a w
theorem kOk_at {ops : Array Oper} (h : kOk ops = true) {i : Nat} (hi : i < ops.size) : (∃ d, dstOf ops i = some d) ∧ (∀ j, j < i → dstOf ops i ≠ dstOf ops j) ∧ ∀ o, ops[i]? = some o → ∀ e ∈ o.after, e.on < i := by
  simp only [kOk, Bool.and_eq_true] at h
  have h1 := List.all_eq_true.1 h.2 i (List.mem_range.2 hi)
  simp only [Bool.and_eq_true] at h1
  refine ⟨Option.isSome_iff_exists.1 h1.1.1, fun j hj e => ?_, fun o ho e he => ?_⟩
  · have := List.all_eq_true.1 h1.1.2 j (List.mem_range.2 hj)
    simp [e] at this
  · have h2 := h1.2
    rw [ho] at h2
    have h2 : (o.after.all fun e => Nat.blt e.on i) = true := h2
    have := Array.all_eq_true_iff_forall_mem.1 h2 e he
    simpa using this
theorem dst_inj {ops : Array Oper} (h : kOk ops = true) {i j d : Nat} (hi : i < ops.size) (hj : j < ops.size) (e1 : dstOf ops i = some d) (e2 : dstOf ops j = some d) : i = j := by
  rcases Nat.lt_trichotomy i j with hl | hl | hl
  · exact absurd (e2.trans e1.symm) ((kOk_at h hj).2.1 i hl)
  · exact hl
  · exact absurd (e1.trans e2.symm) ((kOk_at h hi).2.1 j hl)
def unlisted (listed : Array Bool) : Nat := (listed.toList.filter fun b => !b).length
theorem unlisted_set {listed : Array Bool} {i : Nat} (h : listed.getD i true = false) : unlisted listed = unlisted (listed.setIfInBounds i true) + 1 := by
  have hi : i < listed.size := by
    rcases Nat.lt_or_ge i listed.size with h1 | h1
    · exact h1
    · rw [Array.getD_eq_getD_getElem?, Array.getElem?_eq_none h1] at h; cases h
  have key : ∀ (l : List Bool) (i : Nat), l[i]? = some false → (l.filter fun b => !b).length = ((l.set i true).filter fun b => !b).length + 1 := by
    intro l
    induction l with
    | nil => intro i hi; simp at hi
    | cons b r ih =>
      intro i hi
      cases i with
      | zero => simp at hi; subst hi; simp
      | succ i =>
        have := ih i (by simpa using hi)
        cases b <;> simp at this ⊢ <;> omega
  have h2 : listed.toList[i]? = some false := by
    rw [Array.getD_eq_getD_getElem?, Array.getElem?_eq_getElem hi] at h
    rw [Array.getElem?_toList, Array.getElem?_eq_getElem hi]
    simpa using h
  rw [unlisted, unlisted, Array.toList_setIfInBounds]
  exact key _ _ h2
theorem head_of_KS {C : Cx} {ops : Array Oper} {F0 : Fr} {L : List HL} {vals : Nat → Value} {T : Act → World → Prop} (hB : kOk ops = true) (hk : ∀ i, i < ops.size → KS C ops F0 L vals i)
    (hT : ∀ listed a w, KInv C ops F0 L vals listed a w → (∀ i, i < ops.size → listed.getD i false = true) → T a w) :
    ∀ (f : Nat) (listed : Array Bool) (a : Act) (w : World), KInv C ops F0 L vals listed a w → unlisted listed = f → wpHeadP C.r C.P .any ops (fun _ a w => T a w) f listed a w
  | 0, listed, a, w, inv, hf => by
    have hall : ∀ i, i < ops.size → listed.getD i true = true := fun i hi => by
      cases h : listed.getD i true
      · have := unlisted_set h; omega
      · rfl
    have hall' : ∀ i, i < ops.size → listed.getD i false = true := fun i hi => by
      have h := hall i hi
      have hs : i < listed.size := by rw [inv.size]; exact hi
      rw [Array.getD_eq_getD_getElem?, Array.getElem?_eq_getElem hs] at h ⊢
      simpa using h
    refine ⟨?_, hT listed a w inv hall'⟩
    apply List.eq_nil_iff_forall_not_mem.2
    intro j hj
    obtain ⟨h1, o, ho, _⟩ := mem_ready.1 hj
    have hjs : j < ops.size := (Array.getElem?_eq_some_iff.1 ho).1
    rw [hall j hjs] at h1; cases h1
  | f + 1, listed, a, w, inv, hf => by
    refine ⟨fun h0 => ?_, fun i hi => ?_⟩
    · -- the first that is not listed is ready
      have hex : ∃ i, i < ops.size ∧ listed.getD i true = false := by
        by_cases h : ∃ i, i < ops.size ∧ listed.getD i true = false
        · exact h
        · exfalso
          have : unlisted listed = 0 := by
            rw [unlisted, List.length_eq_zero_iff, List.filter_eq_nil_iff]
            intro b hb hb2
            obtain ⟨i, hi⟩ := List.getElem?_of_mem hb
            have hil := (List.getElem?_eq_some_iff.1 hi).1
            have hil2 : i < listed.size := by simpa using hil
            refine h ⟨i, by rw [← inv.size]; exact hil2, ?_⟩
            rw [Array.getElem?_toList] at hi
            rw [Array.getD_eq_getD_getElem?, hi]
            cases b <;> simp at hb2 ⊢
          omega
      have key : ∀ n i, i < n → i < ops.size → listed.getD i true = false → ∃ j, j ∈ Region.ready .any ops listed := by
        intro n
        induction n with
        | zero => intro i hi; omega
        | succ n ih =>
          intro i hi his hl
          by_cases hr : i ∈ Region.ready .any ops listed
          · exact ⟨i, hr⟩
          · obtain ⟨o, ho⟩ : ∃ o, ops[i]? = some o := ⟨ops[i], Array.getElem?_eq_getElem his⟩
            have hne : ¬ ∀ e ∈ o.after, Region.binds .any e = true → listed.getD e.on false = true := fun h => hr (mem_ready.2 ⟨hl, o, ho, h⟩)
            have : ∃ e, e ∈ o.after ∧ ¬ listed.getD e.on false = true := by
              by_cases hx : ∃ e, e ∈ o.after ∧ ¬ listed.getD e.on false = true
              · exact hx
              · exact absurd (fun e he _ => by by_cases h3 : listed.getD e.on false = true; exact h3; exact absurd ⟨e, he, h3⟩ hx) hne
            obtain ⟨e, he, h3⟩ := this
            have hlt := (kOk_at hB his).2.2 o ho e he
            have hes : e.on < listed.size := by rw [inv.size]; omega
            refine ih e.on (by omega) (by omega) ?_
            rw [Array.getD_eq_getD_getElem?, Array.getElem?_eq_getElem hes] at h3 ⊢
            simpa using h3
      obtain ⟨i, his, hl⟩ := hex
      obtain ⟨j, hj⟩ := key (i + 1) i (by omega) his hl
      rw [h0] at hj; cases hj
    · obtain ⟨hl, o, ho, _⟩ := mem_ready.1 hi
      have his : i < ops.size := (Array.getElem?_eq_some_iff.1 ho).1
      refine hk i his listed a w inv hi _ (fun a' w' inv' => head_of_KS hB hk hT f _ a' w' inv' ?_)
      have := unlisted_set hl; omega
/-- The operations so far yield the values of A (the last one first). -/
def SA (ops : Array Oper) (A : Fr) : Prop := ∀ i, i < A.length → ∃ d v, A[A.length - 1 - i]? = some (d, v) ∧ dstOf ops i = some d
def Agree (A : Fr) (vals : Nat → Value) : Prop := ∀ i d v, i < A.length → A[A.length - 1 - i]? = some (d, v) → vals i = v
def RunK (C : Cx) (id : Nat) (l : List Oper) (Q : Exit → Act → World → Prop) (F0 : Fr) (L : List HL) (A : Fr) : Prop :=
  kOk l.toArray = true → SA l.toArray A → (∀ vals, Agree A vals → ∀ i, i < A.length → KS C l.toArray F0 L vals i) → ∀ a w, At C.n C.D F0 a → Sym C.w0 C.S L w → (Code.region id l.toArray true).wpIn (FW C.r) 0 C.P Q a w
variable {C : Cx} {Q : Exit → Act → World → Prop} {F F0 A : Fr} {L : List HL} {id : Nat} {l : List Oper}
theorem RunC.anyK (hB : kOk l.toArray = true) (h : RunK C id l Q (F.forget (slotsOf l.toArray)) L []) : RunC C (.region id l.toArray true) Q F L := fun a w ok =>
  h hB (fun i hi => absurd hi (Nat.not_lt_zero i)) (fun _ _ i hi => absurd hi (Nat.not_lt_zero i)) a w (ok.fr.sub (Fr.Sub.forget _ _)) ok.sym
theorem fr_mem {F : Fr} {t : Nat} {v : Value} (h : F.get t = some v) : (t, v) ∈ F := by
  induction F with
  | nil => simp [Fr.get] at h
  | cons p r ih =>
    obtain ⟨k, u⟩ := p
    rw [Fr.get_cons] at h
    by_cases e : k = t
    · rw [if_pos e] at h; cases h; subst e; exact List.mem_cons_self ..
    · rw [if_neg e] at h; exact List.mem_cons_of_mem _ (ih h)
theorem RunK.done (hm : C.P.follows .mixedOrders = true) (hl : Nat.beq A.length l.toArray.size = true) (h : Ends C .normal Q (A ++ F0) L) : RunK C id l Q F0 L A := fun hB hS hg a w h0 hs => by
  have hl : A.length = l.toArray.size := Nat.eq_of_beq_eq_true hl
  let vals : Nat → Value := fun i => ((A[A.length - 1 - i]?).map (·.2)).getD undef
  have hA : Agree A vals := fun i d v _ e => by show ((A[A.length - 1 - i]?).map (·.2)).getD undef = v; rw [e]; rfl
  have hk := hg vals hA
  have inv0 : KInv C l.toArray F0 L vals (Array.replicate l.toArray.size false) a w.drew :=
    ⟨by simp, h0, fun i d hi hl => (by rw [Array.getD_eq_getD_getElem?, Array.getElem?_replicate] at hl; split at hl <;> simp at hl), hs.drew⟩
  have H := head_of_KS (T := fun a w => Q .normal a w) hB (fun i hi => hk i (by omega)) (fun listed a w inv hall => by
    refine h a w ⟨⟨inv.at0.size, inv.at0.defers, fun t v ht => ?_⟩, inv.sym⟩
    rw [Fr.get_append] at ht
    cases hA1 : Fr.get A t with
    | none => rw [hA1] at ht; exact inv.at0.slot t v ht
    | some u =>
      rw [hA1] at ht
      have e : u = v := by simpa using ht
      subst e
      obtain ⟨j, hj⟩ := List.getElem?_of_mem (fr_mem hA1)
      have hjl := (List.getElem?_eq_some_iff.1 hj).1
      have hi : A.length - 1 - j < A.length := by omega
      obtain ⟨d, v', e1, e2⟩ := hS _ hi
      rw [show A.length - 1 - (A.length - 1 - j) = j by omega, hj] at e1
      cases e1
      rw [inv.got _ t (by omega) (hall _ (by omega)) e2]
      show some (((A[A.length - 1 - (A.length - 1 - j)]?).map (·.2)).getD undef) = some u
      rw [show A.length - 1 - (A.length - 1 - j) = j by omega, hj]; rfl) _ _ _ _ inv0 rfl
  have hu : unlisted (Array.replicate l.toArray.size false) = l.toArray.size := by simp [unlisted]
  rw [hu] at H
  exact wpIn_region_any hm (wpAny_of_headP _ _ _ _ H)
def tsOk (ops : Array Oper) (o : Oper) (ts : List Nat) : Bool := ts.all fun t => o.after.toList.any fun e => Region.binds .any e && (match dstOf ops e.on with | some d => Nat.beq d t | none => false)
/-- What an operation may look at: what it must come behind. -/
def onlyK (ts : List Nat) (A : Fr) : Fr := A.filter fun p => ts.elem p.1
theorem ok_of_inv {vals : Nat → Value} {listed : Array Bool} {a : Act} {w : World} {k : Nat} {o : Oper} {ts : List Nat} (hB : kOk l.toArray = true) (hS : SA l.toArray A) (hAg : Agree A vals) (hlen : A.length = k) (hks : k < l.toArray.size) (ho : l.toArray[k]? = some o) (hts : tsOk l.toArray o ts = true)
    (inv : KInv C l.toArray F0 L vals listed a w) (hr : k ∈ Region.ready .any l.toArray listed) : Ok C (onlyK ts A ++ F0) L a w := by
  refine ⟨⟨inv.at0.size, inv.at0.defers, fun t v ht => ?_⟩, inv.sym⟩
  rw [Fr.get_append] at ht
  cases hA1 : Fr.get (onlyK ts A) t with
  | none => rw [hA1] at ht; exact inv.at0.slot t v ht
  | some u =>
    rw [hA1] at ht
    have e : u = v := by simpa using ht
    subst e
    have hm := List.mem_filter.1 (fr_mem hA1)
    have ht2 : t ∈ ts := by simpa using hm.2
    have h1 := List.all_eq_true.1 hts t ht2
    obtain ⟨e, he', h2⟩ := List.any_eq_true.1 h1
    have he : e ∈ o.after := by simpa using he'
    rw [Bool.and_eq_true] at h2
    obtain ⟨j, hj⟩ := List.getElem?_of_mem hm.1
    have hjl := (List.getElem?_eq_some_iff.1 hj).1
    obtain ⟨d, v', e1, e2⟩ := hS (A.length - 1 - j) (by omega)
    rw [show A.length - 1 - (A.length - 1 - j) = j by omega, hj] at e1
    cases e1
    have e3 : dstOf l.toArray e.on = some t := by
      have h3 := h2.2
      cases hd : dstOf l.toArray e.on with
      | none => rw [hd] at h3; cases h3
      | some d => rw [hd] at h3; rw [Nat.eq_of_beq_eq_true h3]
    have hlt := (kOk_at hB hks).2.2 o ho e he
    have hei : e.on = A.length - 1 - j := dst_inj hB (by omega) (by omega) e3 e2
    obtain ⟨_, o', ho', hall⟩ := mem_ready.1 hr
    rw [ho] at ho'; cases ho'
    have := inv.got e.on t (by omega) (hall e he h2.1) e3
    rw [this]
    have hv := hAg (A.length - 1 - j) t u (by omega) (by rw [show A.length - 1 - (A.length - 1 - j) = j by omega]; exact hj)
    rw [hei, hv]
theorem inv_put {vals : Nat → Value} {listed : Array Bool} {a : Act} {w w' : World} {k d : Nat} (hB : kOk l.toArray = true) (hks : k < l.toArray.size) (hd : dstOf l.toArray k = some d) (hn : d < C.n) (hF0 : F0.get d = none)
    (inv : KInv C l.toArray F0 L vals listed a w) (hs : Sym C.w0 C.S L w') : KInv C l.toArray F0 L vals (listed.setIfInBounds k true) (a.put (some d) (vals k)) w' := by
  have hp := inv.at0.put hn (vals k)
  refine ⟨by simp [inv.size], ⟨hp.size, hp.defers, fun t v ht => hp.slot t v (by
    rw [Fr.get_cons, if_neg (fun e => by subst e; rw [hF0] at ht; cases ht)]; exact ht)⟩, fun i d' hi hl hd' => ?_, hs⟩
  have hsz : d < a.tmps.size := by rw [inv.at0.size]; exact hn
  by_cases e : k = i
  · subst e
    rw [hd] at hd'; cases hd'
    show (a.tmps.setIfInBounds d (vals k))[d]? = _
    rw [Array.getElem?_setIfInBounds_self_of_lt hsz]
  · have hne : d ≠ d' := fun e2 => e (dst_inj hB hks hi hd (e2 ▸ hd'))
    show (a.tmps.setIfInBounds d (vals k))[d']? = _
    rw [Array.getElem?_setIfInBounds_ne hne]
    refine inv.got i d' hi ?_ hd'
    rw [Array.getD_eq_getD_getElem?, Array.getElem?_setIfInBounds_ne e] at hl
    rw [Array.getD_eq_getD_getElem?]; exact hl
theorem RunK.snoc {k d : Nat} {v : Value} {o : Oper} (hk : A.length = k) (ho : l.toArray[k]? = some o) (hd : o.dst = some d)
    (hks : kOk l.toArray = true → ∀ vals, SA l.toArray A → Agree A vals → vals k = v → KS C l.toArray F0 L vals k) (h : RunK C id l Q F0 L ((d, v) :: A)) : RunK C id l Q F0 L A := fun hB hS hg => by
  have hlen : ((d, v) :: A).length = k + 1 := by simp [hk]
  have hold : ∀ i, i < k → ((d, v) :: A)[((d, v) :: A).length - 1 - i]? = A[A.length - 1 - i]? := fun i hi => by
    rw [hlen, show k + 1 - 1 - i = (k - 1 - i) + 1 by omega, List.getElem?_cons_succ, hk]
  refine h hB (fun i hi => ?_) (fun vals hA i hi => ?_)
  · rcases Nat.lt_or_ge i k with h1 | h1
    · rw [hold i h1]; exact hS i (by omega)
    · obtain rfl : i = k := by omega
      exact ⟨d, v, by rw [hlen, show i + 1 - 1 - i = 0 by omega]; rfl, by rw [dstOf, ho]; exact hd⟩
  · have hA' : Agree A vals := fun j d' v' hj e => hA j d' v' (by omega) (by rw [hold j (by omega)]; exact e)
    rcases Nat.lt_or_ge i k with h1 | h1
    · exact hg vals hA' i (by omega)
    · obtain rfl : i = k := by omega
      exact hks hB vals hS hA' (hA i d v (by omega) (by rw [hlen, show i + 1 - 1 - i = 0 by omega]; rfl))
theorem RunK.grows {d : Nat} {v : Value} {o : Oper} (ts : List Nat) (ho : l.toArray[A.length]? = some o) (hts : tsOk l.toArray o ts = true) (hw : wants l.toArray (onlyK ts A ++ F0) o = some true) (hd : o.dst = some d) (hn : Nat.blt d C.n = true) (hF0 : F0.get d = none)
    (hg : Grows C o (onlyK ts A ++ F0) L (fun _ : Unit => True) (fun _ => v) (fun _ => [])) (h : RunK C id l Q F0 L ((d, v) :: A)) : RunK C id l Q F0 L A :=
  RunK.snoc rfl ho hd (fun hB vals hS hAg hv listed a w inv hr K hK => by
    have hks : A.length < l.toArray.size := (Array.getElem?_eq_some_iff.1 ho).1
    have ok := ok_of_inv hB hS hAg rfl hks ho hts inv hr
    unfold wpOpIn
    simp only [ho, wants_ok ok hw, if_true]
    refine hg a w ok _ _ (fun _ w' _ _ hs => hK _ w' ?_)
    rw [hd, ← hv]
    exact inv_put hB hks (by rw [dstOf, ho]; exact hd) (by simpa using hn) hF0 inv hs) h
theorem RunK.still {d : Nat} {v : Value} {o : Oper} (ts : List Nat) (ho : l.toArray[A.length]? = some o) (hts : tsOk l.toArray o ts = true) (hw : wants l.toArray (onlyK ts A ++ F0) o = some true) (hd : o.dst = some d) (hn : Nat.blt d C.n = true) (hF0 : F0.get d = none)
    (hg : Still C o (onlyK ts A ++ F0) L v) (h : RunK C id l Q F0 L ((d, v) :: A)) : RunK C id l Q F0 L A :=
  RunK.snoc rfl ho hd (fun hB vals hS hAg hv listed a w inv hr K hK => by
    have hks : A.length < l.toArray.size := (Array.getElem?_eq_some_iff.1 ho).1
    have ok := ok_of_inv hB hS hAg rfl hks ho hts inv hr
    unfold wpOpIn
    simp only [ho, wants_ok ok hw, if_true]
    refine still_wpIn hg ok (hK _ w ?_)
    rw [hd, ← hv]
    exact inv_put hB hks (by rw [dstOf, ho]; exact hd) (by simpa using hn) hF0 inv inv.sym) h
theorem RunK.off {d : Nat} {o : Oper} (ts : List Nat) (ho : l.toArray[A.length]? = some o) (hts : tsOk l.toArray o ts = true) (hw : wants l.toArray (onlyK ts A ++ F0) o = some false) (hd : o.dst = some d) (hn : Nat.blt d C.n = true) (hF0 : F0.get d = none)
    (h : RunK C id l Q F0 L ((d, undef) :: A)) : RunK C id l Q F0 L A :=
  RunK.snoc rfl ho hd (fun hB vals hS hAg hv listed a w inv hr K hK => by
    have hks : A.length < l.toArray.size := (Array.getElem?_eq_some_iff.1 ho).1
    have ok := ok_of_inv hB hS hAg rfl hks ho hts inv hr
    unfold wpOpIn
    simp only [ho, wants_ok ok hw, Bool.false_eq_true, if_false]
    refine ⟨fun _ _ => trivial, hK _ w ?_⟩
    rw [hd, ← hv]
    exact inv_put hB hks (by rw [dstOf, ho]; exact hd) (by simpa using hn) hF0 inv inv.sym) h
theorem RunK.again {t : Nat} {u v : Value} (e : v = u) (h : RunK C id l Q F0 L ((t, u) :: A)) : RunK C id l Q F0 L ((t, v) :: A) := e ▸ h
theorem RunK.split {t : Nat} {b : Bool} (h1 : b = true → RunK C id l Q F0 L ((t, .bool true) :: A)) (h2 : b = false → RunK C id l Q F0 L ((t, .bool false) :: A)) : RunK C id l Q F0 L ((t, .bool b) :: A) := by
  cases b
  · exact h2 rfl
  · exact h1 rfl
end anyk
end Go.V
/- The reference: whether two gluings are equal but for a renumbering. -/
namespace Go.Proofs
open Go Go.V
set_option maxRecDepth 20000
theorem rnT_none {a b : Glu} {l m : List Int} {t : Nat} (h : rnT nthP a b l m (t + 1) = none) : ∀ d, rnT nthP a b l m (t + 1 + d) = none
  | 0 => h
  | d + 1 => by rw [← Nat.add_assoc, rnT, rnT_none h d]; rfl
theorem anyP_mono {a b : Glu} {t u k : Nat} (h : anyP nthP a b t u k = true) (hk : k ≤ 24) : anyP nthP a b t u 24 = true := by
  obtain ⟨j, hj, e⟩ := (anyP_iff k).1 h
  exact (anyP_iff 24).2 ⟨j, by omega, e⟩
theorem findU_skip {a b : Glu} {m : List Int} {used : List Bool} {t k i : Nat} (h : ¬ (used.getD (m.getD i 0).toNat false = false ∧ anyP nthP a b t i 24 = true)) : findU nthP a b m used t (k + 1) i = findU nthP a b m used t k (i + 1) := by rw [findU, if_neg h]
theorem findU_hit {a b : Glu} {m : List Int} {used : List Bool} {t k i : Nat} (h1 : used.getD (m.getD i 0).toNat false = false) (h2 : anyP nthP a b t i 24 = true) : findU nthP a b m used t (k + 1) i = some i := by rw [findU, if_pos ⟨h1, h2⟩]
def usedOf (m : List Int) (used : List Bool) : Option Nat → List Bool
  | none => used
  | some v => used.set (m.getD v 0).toNat true
theorem rn_next {a b : Glu} {l m : List Int} {t : Nat} {used : List Bool} {r : Option Nat} {n : Nat} (hT : rnT nthP a b l m t = some used) (hs : ¬ seenB l t t = true) (hr : r.isSome = true) (h1 : ∀ v, r = some v → findU nthP a b m used t m.length 0 = some v ∧ v < n) : rnT nthP a b l m (t + 1) = some (usedOf m used r) := by
  obtain ⟨v, rfl⟩ := Option.isSome_iff_exists.1 hr
  rw [rnT, hT]
  show rnStep nthP a b l m t used = _
  rw [rnStep, if_neg hs, (h1 v rfl).1]; rfl
theorem rn_fail {a b : Glu} {l m : List Int} {t n : Nat} {used : List Bool} (hT : rnT nthP a b l m t = some used) (hs : ¬ seenB l t t = true) (h1 : findU nthP a b m used t m.length 0 = none) (ht : t < n) (h : (rnT nthP a b l m n).isSome = true) : False := by
  have hno : rnT nthP a b l m (t + 1) = none := by
    rw [rnT, hT]
    show rnStep nthP a b l m t used = _
    rw [rnStep, if_neg hs, h1]; rfl
  have := rnT_none hno (n - (t + 1))
  rw [show t + 1 + (n - (t + 1)) = n by omega] at this
  rw [this] at h; cases h

theorem rf_Renumbered (ba : Option Addr) (A : Addr) (ca : Nat) (a : Glu) (bb : Option Addr) (B : Addr) (cb : Nat) (b : Glu) (w : World) (hga : GluAt w ba A a) (hgb : GluAt w bb B b) (ha : okG a = true) (hb : okG b = true) (hl : a.length = b.length) (hyes : (rnT nthP a b (partsOf a) (partsOf b) a.length).isSome = true) : Gives Tryz.prog 35 #[gluV ba ca a, gluV bb cb b] w Nil (fun _ : Unit => True) (fun _ => .bool true) (fun _ => []) := by
  have hla := hga.len
  have hlb := hgb.len
  have h1000 := okG_len ha
  have h1001 := okG_len hb
  have hpa := parts_len ha
  have hpb := parts_len hb
  have hNb := partsN_le' hb
  refine fn_of_run (S := Nil) (args := [gluV ba ca a, gluV bb cb b]) (n := 112) (L := []) Tryz.func35 rfl Tryz.ntmps35 (Nat.le_of_ble_eq_true rfl) (Sym.nil _ _) ?_
  change RunC _ _ _ [(0, _), (1, _)] _
  refine RunC.seq ?_
  refine RunC.region ?_
  refine RunL.grows rfl rfl rfl (Grows.box rfl rfl) (fun b2 _ => ?_)
  refine RunL.grows rfl rfl rfl (Grows.box rfl rfl) (fun b3 _ => ?_)
  refine RunL.still rfl rfl rfl (Still.assign rfl rfl) ?_
  refine RunL.nil ?_
  refine Ends.then ?_
  refine RunC.seq ?_
  refine RunC.seq ?_
  refine RunC.region ?_
  refine RunL.still rfl rfl rfl (Still.fieldAddrL (off := 0) (off' := 0) rfl rfl Tryz.underlying24 rfl Tryz.sizeOf22 rfl) ?_
  refine RunL.still rfl rfl rfl (Still.load rfl rfl Tryz.isAgg22 (fun _ hs => cell_nth (hs.at (i := 1) rfl) rfl)) ?_
  refine RunL.still rfl rfl rfl (Still.lenSlice rfl rfl Tryz.underlying22) ?_
  refine RunL.still rfl rfl rfl (Still.fieldAddrL (off := 0) (off' := 0) rfl rfl Tryz.underlying24 rfl Tryz.sizeOf22 rfl) ?_
  refine RunL.still rfl rfl rfl (Still.load rfl rfl Tryz.isAgg22 (fun _ hs => cell_nth (hs.at (i := 0) rfl) rfl)) ?_
  refine RunL.still rfl rfl rfl (Still.lenSlice rfl rfl Tryz.underlying22) ?_
  refine RunL.still rfl rfl rfl (Still.neq rfl rfl rfl) ?_
  refine RunL.still rfl rfl rfl (Still.move rfl rfl) ?_
  refine RunL.split (t := 23) rfl (fun h23 => ?_) (fun h23 => ?_)
  · have h23 := of_decide_eq_true h23
    omega
  · have h23 := of_decide_eq_false h23
    refine RunL.still rfl rfl rfl (Still.loads rfl rfl Tryz.isAgg24 Tryz.sizeOf24 (vs := [_]) rfl (fun _ hs => cells_nth (hs.at (i := 1) rfl) ⟨rfl, trivial⟩)) ?_
    refine RunL.grows rfl rfl rfl (Grows.call (vs := #[_]) rfl rfl Tryz.call11 (fun w hs => rf_Check ba A ca a w (hga.sym hs))) (fun _ _ => ?_)
    refine RunL.still rfl rfl rfl (Still.neq rfl rfl rfl) ?_
    refine RunL.again (t := 26) (u := .bool false) rfl (congrArg Value.bool (by rw [chkG_ok ha]; rfl)) ?_
    refine RunL.still rfl rfl rfl (Still.pickF rfl rfl rfl) ?_
    refine RunL.still rfl rfl rfl (Still.move rfl rfl) ?_
    refine RunL.still rfl rfl rfl (Still.loads rfl rfl Tryz.isAgg24 Tryz.sizeOf24 (vs := [_]) rfl (fun _ hs => cells_nth (hs.at (i := 0) rfl) ⟨rfl, trivial⟩)) ?_
    refine RunL.grows rfl rfl rfl (Grows.call (vs := #[_]) rfl rfl Tryz.call11 (fun w hs => rf_Check bb B cb b w (hgb.sym hs))) (fun _ _ => ?_)
    refine RunL.still rfl rfl rfl (Still.neq rfl rfl rfl) ?_
    refine RunL.again (t := 31) (u := .bool false) rfl (congrArg Value.bool (by rw [chkG_ok hb]; rfl)) ?_
    refine RunL.still rfl rfl rfl (Still.pickF rfl rfl rfl) ?_
    refine RunL.nil ?_
    refine Ends.then ?_
    refine RunC.cond_false rfl ?_
    refine RunC.skip ?_
    refine Ends.then ?_
    refine RunC.seq ?_
    refine RunC.region ?_
    refine RunL.still rfl rfl rfl (Still.loads rfl rfl Tryz.isAgg24 Tryz.sizeOf24 (vs := [_]) rfl (fun _ hs => cells_nth (hs.at (i := 1) rfl) ⟨rfl, trivial⟩)) ?_
    refine RunL.grows rfl rfl rfl (Grows.call (vs := #[_]) rfl rfl Tryz.call30 (fun w hs => rf_Parts ba A ca a w (hga.sym hs) ha)) (fun pa _ => ?_)
    refine RunL.still rfl rfl rfl (Still.move rfl rfl) ?_
    refine RunL.still rfl rfl rfl (Still.extractN rfl rfl rfl) ?_
    refine RunL.still rfl rfl rfl (Still.extractN rfl rfl rfl) ?_
    refine RunL.still rfl rfl rfl (Still.assign rfl rfl) ?_
    refine RunL.still rfl rfl rfl (Still.assign rfl rfl) ?_
    refine RunL.nil ?_
    refine Ends.then ?_
    refine RunC.seq ?_
    refine RunC.region ?_
    refine RunL.still rfl rfl rfl (Still.loads rfl rfl Tryz.isAgg24 Tryz.sizeOf24 (vs := [_]) rfl (fun _ hs => cells_nth (hs.at (i := 1) rfl) ⟨rfl, trivial⟩)) ?_
    refine RunL.grows rfl rfl rfl (Grows.call (vs := #[_]) rfl rfl Tryz.call30 (fun w hs => rf_Parts bb B cb b w (hgb.sym hs) hb)) (fun pb _ => ?_)
    refine RunL.still rfl rfl rfl (Still.move rfl rfl) ?_
    refine RunL.still rfl rfl rfl (Still.extractN rfl rfl rfl) ?_
    refine RunL.still rfl rfl rfl (Still.extractN rfl rfl rfl) ?_
    refine RunL.still rfl rfl rfl (Still.assign rfl rfl) ?_
    refine RunL.still rfl rfl rfl (Still.assign rfl rfl) ?_
    refine RunL.nil ?_
    refine Ends.then ?_
    refine RunC.seq ?_
    refine RunC.region ?_
    refine RunL.still rfl rfl rfl (Still.move rfl rfl) ?_
    refine RunL.still rfl rfl rfl (Still.lenOwn rfl rfl Tryz.underlying36 (fun _ hs => hs.own (i := 0) rfl)) ?_
    refine RunL.grows rfl rfl rfl (Grows.make (n := b.length) (xs := (bools (List.replicate b.length false))) rfl rfl rfl Tryz.underlying71 (by kernel_rfl : (_ : Option _) = some (some (.bool false), 1, 1)) rfl (by omega) (by omega) (zeros_one _ _ |>.trans (bools_replicate _ _))) (fun b45 _ => ?_)
    refine RunL.still rfl rfl rfl (Still.assign rfl rfl) ?_
    refine RunL.nil ?_
    refine Ends.then ?_
    refine RunC.seq ?_
    refine RunC.seq ?_
    refine RunC.region ?_
    refine RunL.still rfl rfl rfl (Still.assign rfl rfl) ?_
    refine RunL.nil ?_
    refine Ends.then ?_
    refine RunC.block ?_
    refine RunC.loop2 (γ := Nat × List Bool) (keep := [(2, _), (3, _), (5, _), (7, _), (9, _)]) (hkeep := [_, _, _, _]) (fun (t, used) => t ≤ a.length ∧ rnT nthP a b (partsOf a) (partsOf b) t = some used ∧ used.length = b.length) (fun (t, used) => a.length - t) (fun (t, used) => [(10, iv t)]) (fun (t, used) => [HL.own 4 1 (.slice (some ⟨b45, 0, none⟩) b.length b.length) b.length (bools used)]) (0, List.replicate b.length false) ⟨by omega, by show some (List.replicate (partsOf b).length false) = _; rw [hpb], by simp⟩ (Fr.Sub.cons rfl (Fr.Sub.nil _)) (Fr.Sub.cons rfl (Fr.Sub.cons rfl (Fr.Sub.cons rfl (Fr.Sub.cons rfl (Fr.Sub.cons rfl (Fr.Sub.nil _)))))) (HSub.pick 0 rfl (HSub.pick 0 rfl (HSub.pick 0 rfl (HSub.pick 0 rfl (HSub.pick 0 rfl (HSub.nil _)))))) ?_
    rintro ⟨t, used⟩ ⟨ht, hT, hul⟩
    have ht : t ≤ a.length := ht
    have hT : rnT nthP a b (partsOf a) (partsOf b) t = some used := hT
    have hul : used.length = b.length := hul
    refine RunC.seq ?_
    refine RunC.seq ?_
    refine RunC.region ?_
    refine RunL.still rfl rfl rfl (Still.move rfl rfl) ?_
    refine RunL.still rfl rfl rfl (Still.move rfl rfl) ?_
    refine RunL.still rfl rfl rfl (Still.lenOwn rfl rfl Tryz.underlying36 (fun _ hs => hs.own (i := 2) rfl)) ?_
    refine RunL.still rfl rfl rfl (Still.lss rfl rfl rfl) ?_
    refine RunL.nil ?_
    refine Ends.then ?_
    refine RunC.cond rfl (fun h49 => ?_) (fun h49 => ?_)
    · have h49 := of_decide_eq_true h49
      have htN : t < a.length := by omega
      refine RunC.skip ?_
      refine Ends.then ?_
      refine RunC.seq ?_
      refine RunC.block ?_
      refine RunC.seq ?_
      refine RunC.region ?_
      refine RunL.still rfl rfl rfl (Still.assign rfl rfl) ?_
      refine RunL.nil ?_
      refine Ends.then ?_
      refine RunC.seq ?_
      refine RunC.seq ?_
      refine RunC.region ?_
      refine RunL.still rfl rfl rfl (Still.assign rfl rfl) ?_
      refine RunL.nil ?_
      refine Ends.then ?_
      refine RunC.block ?_
      refine RunC.loop2 (γ := Nat) (keep := [(2, _), (3, _), (5, _), (7, _), (9, _), (10, _)]) (hkeep := [_, _, _, _, _]) (fun k => k ≤ t) (fun k => t - k) (fun k => [(11, .bool (!seenB (partsOf a) t k)), (12, iv k)]) (fun k => []) 0 (by omega) (Fr.Sub.cons rfl (Fr.Sub.cons rfl (Fr.Sub.nil _))) (Fr.Sub.cons rfl (Fr.Sub.cons rfl (Fr.Sub.cons rfl (Fr.Sub.cons rfl (Fr.Sub.cons rfl (Fr.Sub.cons rfl (Fr.Sub.nil _))))))) (HSub.pick 0 rfl (HSub.pick 0 rfl (HSub.pick 0 rfl (HSub.pick 0 rfl (HSub.pick 0 rfl (HSub.nil _)))))) ?_
      rintro k hk
      refine RunC.seq ?_
      refine RunC.seq ?_
      refine RunC.region ?_
      refine RunL.still rfl rfl rfl (Still.move rfl rfl) ?_
      refine RunL.still rfl rfl rfl (Still.move rfl rfl) ?_
      refine RunL.still rfl rfl rfl (Still.lss rfl rfl rfl) ?_
      refine RunL.nil ?_
      refine Ends.then ?_
      refine RunC.cond rfl (fun h54 => ?_) (fun h54 => ?_)
      · have h54 := of_decide_eq_true h54
        refine RunC.skip ?_
        refine Ends.then ?_
        refine RunC.seq ?_
        refine RunC.block ?_
        refine RunC.draw 12 (.still 0 (.still 1 (.still 2 (.still 3 (.still 4 (.still 5 (.still 6 (.still 7 (.still 8 (.still 9 (.still 10 (.still 11 .done)))))))))))) (by kernel_rfl) (by kernel_rfl) ?_
        refine RunG.still rfl rfl rfl rfl (Still.move rfl rfl) ?_
        refine RunG.still rfl rfl rfl rfl (Still.move rfl rfl) ?_
        refine RunG.split (t := 58) rfl (fun h58 => ?_) (fun h58 => ?_)
        · skip
          refine RunG.still rfl rfl rfl rfl (Still.move rfl rfl) ?_
          refine RunG.still rfl rfl rfl rfl (Still.move rfl rfl) ?_
          refine RunG.still rfl rfl rfl rfl (Still.indexOwn rfl rfl rfl Tryz.underlying36 Tryz.sizeOf3 (fun _ hs => hs.own (i := 2) rfl) (by omega)) ?_
          refine RunG.still rfl rfl rfl rfl (Still.load rfl rfl Tryz.isAgg3 (fun w hs => own_at (hs.own (i := 2) rfl) (ints_get (getD_get' (by omega))))) ?_
          refine RunG.still rfl rfl rfl rfl (Still.move rfl rfl) ?_
          refine RunG.still rfl rfl rfl rfl (Still.move rfl rfl) ?_
          refine RunG.still rfl rfl rfl rfl (Still.indexOwn rfl rfl rfl Tryz.underlying36 Tryz.sizeOf3 (fun _ hs => hs.own (i := 2) rfl) (by omega)) ?_
          refine RunG.still rfl rfl rfl rfl (Still.load rfl rfl Tryz.isAgg3 (fun w hs => own_at (hs.own (i := 2) rfl) (ints_get (getD_get' (by omega))))) ?_
          refine RunG.still rfl rfl rfl rfl (Still.neq rfl rfl rfl) ?_
          refine RunG.still rfl rfl rfl rfl (Still.pickT rfl rfl rfl) ?_
          refine RunG.done ?_
          show RunL _ _ _ [_] _ _
          refine RunL.still rfl rfl rfl (Still.assign rfl rfl) ?_
          refine RunL.nil ?_
          refine Ends.block ?_
          refine Ends.then ?_
          refine RunC.region ?_
          refine RunL.still rfl rfl rfl (Still.move rfl rfl) ?_
          refine RunL.still rfl rfl rfl (Still.add rfl rfl rfl (fits64 (by omega) (by omega))) ?_
          refine RunL.still rfl rfl rfl (Still.assign rfl rfl) ?_
          refine RunL.nil ?_
          refine Ends.again (k + 1) ?_ ?_ (Fr.Sub.app ?_ ?_) ?_
          · show _; omega
          · show _ < _; omega
          · exact Fr.Sub.cons (congrArg (fun z => some (Value.bool z)) (by rw [seenB]; simp at h58; simp [h58])) (Fr.Sub.cons rfl (Fr.Sub.nil _))
          · exact Fr.Sub.cons rfl (Fr.Sub.cons rfl (Fr.Sub.cons rfl (Fr.Sub.cons rfl (Fr.Sub.cons rfl (Fr.Sub.cons rfl (Fr.Sub.nil _))))))
          · exact HSub.pick 0 rfl (HSub.pick 0 rfl (HSub.pick 0 rfl (HSub.pick 0 rfl (HSub.pick 0 rfl (HSub.nil _)))))
        · skip
          refine RunG.off rfl rfl rfl rfl ?_
          refine RunG.off rfl rfl rfl rfl ?_
          refine RunG.off rfl rfl rfl rfl ?_
          refine RunG.off rfl rfl rfl rfl ?_
          refine RunG.off rfl rfl rfl rfl ?_
          refine RunG.off rfl rfl rfl rfl ?_
          refine RunG.off rfl rfl rfl rfl ?_
          refine RunG.off rfl rfl rfl rfl ?_
          refine RunG.off rfl rfl rfl rfl ?_
          refine RunG.still rfl rfl rfl rfl (Still.pickF rfl rfl rfl) ?_
          refine RunG.done ?_
          show RunL _ _ _ [_] _ _
          refine RunL.still rfl rfl rfl (Still.assign rfl rfl) ?_
          refine RunL.nil ?_
          refine Ends.block ?_
          refine Ends.then ?_
          refine RunC.region ?_
          refine RunL.still rfl rfl rfl (Still.move rfl rfl) ?_
          refine RunL.still rfl rfl rfl (Still.add rfl rfl rfl (fits64 (by omega) (by omega))) ?_
          refine RunL.still rfl rfl rfl (Still.assign rfl rfl) ?_
          refine RunL.nil ?_
          refine Ends.again (k + 1) ?_ ?_ (Fr.Sub.app ?_ ?_) ?_
          · show _; omega
          · show _ < _; omega
          · exact Fr.Sub.cons (congrArg (fun z => some (Value.bool z)) (by rw [seenB]; simp at h58; simp [h58])) (Fr.Sub.cons rfl (Fr.Sub.nil _))
          · exact Fr.Sub.cons rfl (Fr.Sub.cons rfl (Fr.Sub.cons rfl (Fr.Sub.cons rfl (Fr.Sub.cons rfl (Fr.Sub.cons rfl (Fr.Sub.nil _))))))
          · exact HSub.pick 0 rfl (HSub.pick 0 rfl (HSub.pick 0 rfl (HSub.pick 0 rfl (HSub.pick 0 rfl (HSub.nil _)))))
      · have h54 := of_decide_eq_false h54
        obtain rfl : t = k := by omega
        refine RunC.exit ?_
        refine Ends.then_exit ?_
        refine Ends.then_exit ?_
        refine Ends.block_exit ?_
        refine Ends.then ?_
        refine RunC.seq ?_
        refine RunC.seq ?_
        refine RunC.region ?_
        refine RunL.still rfl rfl rfl (Still.move rfl rfl) ?_
        refine RunL.still rfl rfl rfl (Still.not rfl rfl) ?_
        refine RunL.nil ?_
        refine Ends.then ?_
        refine RunC.cond rfl (fun h70 => ?_) (fun h70 => ?_)
        · have hseen : seenB (partsOf a) t t = true := by simpa using h70
          refine RunC.exit ?_
          refine Ends.then_exit ?_
          refine Ends.block_exit ?_
          refine Ends.then ?_
          refine RunC.region ?_
          refine RunL.still rfl rfl rfl (Still.move rfl rfl) ?_
          refine RunL.still rfl rfl rfl (Still.add rfl rfl rfl (fits64 (by omega) (by omega))) ?_
          refine RunL.still rfl rfl rfl (Still.assign rfl rfl) ?_
          refine RunL.nil ?_
          refine Ends.again (t + 1, used) ?_ ?_ (Fr.Sub.app ?_ ?_) ?_
          · exact ⟨by show t + 1 ≤ _; omega, by rw [rnT, hT]; show rnStep _ _ _ _ _ _ _ = _; rw [rnStep, if_pos hseen], hul⟩
          · show _ - (t + 1) < _ - t; omega
          · exact Fr.Sub.cons rfl (Fr.Sub.nil _)
          · exact Fr.Sub.cons rfl (Fr.Sub.cons rfl (Fr.Sub.cons rfl (Fr.Sub.cons rfl (Fr.Sub.cons rfl (Fr.Sub.nil _)))))
          · exact HSub.pick 0 rfl (HSub.pick 0 rfl (HSub.pick 0 rfl (HSub.pick 0 rfl (HSub.pick 0 rfl (HSub.nil _)))))
        · have hseen : ¬ seenB (partsOf a) t t = true := by simpa using h70
          refine RunC.skip ?_
          refine Ends.then ?_
          refine RunC.seq ?_
          refine RunC.region ?_
          refine RunL.still rfl rfl rfl (Still.assign rfl rfl) ?_
          refine RunL.nil ?_
          refine Ends.then ?_
          refine RunC.seq ?_
          refine RunC.seq ?_
          refine RunC.region ?_
          refine RunL.still rfl rfl rfl (Still.assign rfl rfl) ?_
          refine RunL.nil ?_
          refine Ends.then ?_
          refine RunC.block ?_
          refine RunC.loop2 (γ := Nat × Option Nat) (keep := [(2, _), (3, _), (5, _), (7, _), (9, _), (10, _)]) (hkeep := [_, _, _, _]) (fun (u, r) => u ≤ b.length ∧ (r = none → findU nthP a b (partsOf b) used t (partsOf b).length 0 = findU nthP a b (partsOf b) used t ((partsOf b).length - u) u) ∧ (∀ v, r = some v → findU nthP a b (partsOf b) used t (partsOf b).length 0 = some v ∧ v < b.length)) (fun (u, r) => b.length - u) (fun (u, r) => [(13, .bool r.isSome), (14, iv u)]) (fun (u, r) => [HL.own 4 1 (.slice (some ⟨b45, 0, none⟩) b.length b.length) b.length (bools (usedOf (partsOf b) used r))]) (0, none) ⟨by omega, fun _ => rfl, fun v hv => by cases hv⟩ (Fr.Sub.cons rfl (Fr.Sub.cons rfl (Fr.Sub.nil _))) (Fr.Sub.cons rfl (Fr.Sub.cons rfl (Fr.Sub.cons rfl (Fr.Sub.cons rfl (Fr.Sub.cons rfl (Fr.Sub.cons rfl (Fr.Sub.nil _))))))) (HSub.pick 0 (by rfl) (HSub.pick 0 rfl (HSub.pick 0 rfl (HSub.pick 0 rfl (HSub.pick 0 rfl (HSub.nil _)))))) ?_
          rintro ⟨u, r⟩ ⟨hu, hr0, hr1⟩
          have hu : u ≤ b.length := hu
          refine RunC.seq ?_
          refine RunC.seq ?_
          refine RunC.region ?_
          refine RunL.still rfl rfl rfl (Still.move rfl rfl) ?_
          refine RunL.still rfl rfl rfl (Still.move rfl rfl) ?_
          refine RunL.still rfl rfl rfl (Still.lenOwn rfl rfl Tryz.underlying36 (fun _ hs => hs.own (i := 1) rfl)) ?_
          refine RunL.still rfl rfl rfl (Still.lss rfl rfl rfl) ?_
          refine RunL.still rfl rfl rfl (Still.move rfl rfl) ?_
          refine RunL.split (t := 75) rfl (fun h75 => ?_) (fun h75 => ?_)
          · have h75 := of_decide_eq_true h75
            have huN : u < b.length := by omega
            have hru := parts_rng hb huN
            refine RunL.still rfl rfl rfl (Still.move rfl rfl) ?_
            refine RunL.still rfl rfl rfl (Still.not rfl rfl) ?_
            refine RunL.still rfl rfl rfl (Still.pickT rfl rfl rfl) ?_
            refine RunL.nil ?_
            refine Ends.then ?_
            refine RunC.cond rfl (fun h78 => ?_) (fun h78 => ?_)
            · obtain rfl : r = none := by cases r; rfl; simp at h78
              refine RunC.skip ?_
              refine Ends.then ?_
              refine RunC.seq ?_
              refine RunC.block ?_
              refine RunC.seq ?_
              refine RunC.seq ?_
              refine RunC.region ?_
              refine RunL.still rfl rfl rfl (Still.move rfl rfl) ?_
              refine RunL.still rfl rfl rfl (Still.move rfl rfl) ?_
              refine RunL.still rfl rfl rfl (Still.move rfl rfl) ?_
              refine RunL.still rfl rfl rfl (Still.indexOwn rfl rfl rfl Tryz.underlying36 Tryz.sizeOf3 (fun _ hs => hs.own (i := 1) rfl) (by omega)) ?_
              refine RunL.still rfl rfl rfl (Still.load rfl rfl Tryz.isAgg3 (fun w hs => own_at (hs.own (i := 1) rfl) (ints_get (getD_get' (by omega))))) ?_
              refine RunL.still rfl rfl rfl (Still.indexOwnI (m := ((partsOf b).getD u 0).toNat) rfl rfl rfl Tryz.underlying71 Tryz.sizeOf4 (fun _ hs => hs.own (i := 0) rfl) (by omega) (by omega)) ?_
              refine RunL.still rfl rfl rfl (Still.load rfl rfl Tryz.isAgg4 (fun w hs => own_at (hs.own (i := 0) rfl) (bools_get (getD_get (by show _ < used.length; rw [hul]; omega) false)))) ?_
              refine RunL.nil ?_
              refine Ends.then ?_
              refine RunC.cond rfl (fun h87 => ?_) (fun h87 => ?_)
              · have h87 : used.getD ((partsOf b).getD u 0).toNat false = true := h87
                refine RunC.exit ?_
                refine Ends.then_exit ?_
                refine Ends.block_exit ?_
                refine Ends.then ?_
                refine RunC.region ?_
                refine RunL.still rfl rfl rfl (Still.move rfl rfl) ?_
                refine RunL.still rfl rfl rfl (Still.add rfl rfl rfl (fits64 (by omega) (by omega))) ?_
                refine RunL.still rfl rfl rfl (Still.assign rfl rfl) ?_
                refine RunL.nil ?_
                refine Ends.again (u + 1, none) ?_ ?_ (Fr.Sub.app ?_ ?_) ?_
                · exact ⟨by show u + 1 ≤ _; omega, fun _ => by rw [hr0 rfl, show (partsOf b).length - u = ((partsOf b).length - (u + 1)) + 1 by omega, findU_skip (fun h => by rw [h87] at h; cases h.1)], fun v hv => by cases hv⟩
                · show _ - (u + 1) < _ - u; omega
                · exact Fr.Sub.cons rfl (Fr.Sub.cons rfl (Fr.Sub.nil _))
                · exact Fr.Sub.cons rfl (Fr.Sub.cons rfl (Fr.Sub.cons rfl (Fr.Sub.cons rfl (Fr.Sub.cons rfl (Fr.Sub.cons rfl (Fr.Sub.nil _))))))
                · exact HSub.pick 0 rfl (HSub.pick 0 rfl (HSub.pick 0 rfl (HSub.pick 0 rfl (HSub.pick 0 rfl (HSub.nil _)))))
              · have h87 : used.getD ((partsOf b).getD u 0).toNat false = false := h87
                refine RunC.skip ?_
                refine Ends.then ?_
                refine RunC.seq ?_
                refine RunC.seq ?_
                refine RunC.region ?_
                refine RunL.still rfl rfl rfl (Still.assign rfl rfl) ?_
                refine RunL.nil ?_
                refine Ends.then ?_
                refine RunC.block ?_
                refine RunC.loop2 (γ := Nat) (keep := [(2, _), (3, _), (5, _), (7, _), (9, _), (10, _), (14, _)]) (hkeep := [_, _, _, _, _]) (fun p => p ≤ 24) (fun p => 24 - p) (fun p => [(13, .bool (anyP nthP a b t u p)), (15, iv p)]) (fun p => []) 0 (by omega) (Fr.Sub.cons rfl (Fr.Sub.cons rfl (Fr.Sub.nil _))) (Fr.Sub.cons rfl (Fr.Sub.cons rfl (Fr.Sub.cons rfl (Fr.Sub.cons rfl (Fr.Sub.cons rfl (Fr.Sub.cons rfl (Fr.Sub.cons rfl (Fr.Sub.nil _)))))))) (HSub.pick 0 rfl (HSub.pick 0 rfl (HSub.pick 0 rfl (HSub.pick 0 rfl (HSub.pick 0 rfl (HSub.nil _)))))) ?_
                rintro p hp
                refine RunC.seq ?_
                refine RunC.seq ?_
                refine RunC.region ?_
                refine RunL.still rfl rfl rfl (Still.move rfl rfl) ?_
                refine RunL.still rfl rfl rfl (Still.lss rfl rfl rfl) ?_
                refine RunL.still rfl rfl rfl (Still.move rfl rfl) ?_
                refine RunL.split (t := 90) rfl (fun h90 => ?_) (fun h90 => ?_)
                · have h90 := of_decide_eq_true h90
                  refine RunL.still rfl rfl rfl (Still.move rfl rfl) ?_
                  refine RunL.still rfl rfl rfl (Still.not rfl rfl) ?_
                  refine RunL.still rfl rfl rfl (Still.pickT rfl rfl rfl) ?_
                  refine RunL.nil ?_
                  refine Ends.then ?_
                  refine RunC.cond rfl (fun h93 => ?_) (fun h93 => ?_)
                  · have hnf : anyP nthP a b t u p = false := by simpa using h93
                    refine RunC.skip ?_
                    refine Ends.then ?_
                    refine RunC.seq ?_
                    refine RunC.block ?_
                    refine RunC.anyK (by kernel_rfl) ?_
                    refine RunK.still [] rfl rfl rfl rfl rfl rfl (Still.loads rfl rfl Tryz.isAgg24 Tryz.sizeOf24 (vs := [_]) rfl (fun _ hs => cells_nth (hs.at (i := 4) rfl) ⟨rfl, trivial⟩)) ?_
                    refine RunK.still [] rfl rfl rfl rfl rfl rfl (Still.loads rfl rfl Tryz.isAgg24 Tryz.sizeOf24 (vs := [_]) rfl (fun _ hs => cells_nth (hs.at (i := 3) rfl) ⟨rfl, trivial⟩)) ?_
                    refine RunK.still [] rfl rfl rfl rfl rfl rfl (Still.move rfl rfl) ?_
                    refine RunK.still [] rfl rfl rfl rfl rfl rfl (Still.move rfl rfl) ?_
                    refine RunK.still [] rfl rfl rfl rfl rfl rfl (Still.move rfl rfl) ?_
                    refine RunK.grows [100] rfl rfl rfl rfl rfl rfl (Grows.call (vs := #[_]) rfl rfl Tryz.call69 (fun w hs => rf_Nth p w (by omega))) ?_
                    refine RunK.grows [96, 97, 98, 99, 101] rfl rfl rfl rfl rfl rfl (Grows.call (vs := #[_, _, _, _, _]) rfl rfl Tryz.call68 (fun w hs => rf_matches ba A ca a bb B cb b t u (nthP p) w (hga.sym hs) (hgb.sym hs) ha hb (by omega) (by omega) (nth_all.ok p (by omega)))) ?_
                    refine RunK.still [96, 97, 98, 99, 100, 101, 102] rfl rfl rfl rfl rfl rfl (Still.assign rfl rfl) ?_
                    refine RunK.done (by kernel_rfl) rfl ?_
                    refine Ends.block ?_
                    refine Ends.then ?_
                    refine RunC.region ?_
                    refine RunL.still rfl rfl rfl (Still.move rfl rfl) ?_
                    refine RunL.still rfl rfl rfl (Still.add rfl rfl rfl (fits64 (by omega) (by omega))) ?_
                    refine RunL.still rfl rfl rfl (Still.assign rfl rfl) ?_
                    refine RunL.nil ?_
                    refine Ends.again (p + 1) ?_ ?_ (Fr.Sub.app ?_ ?_) ?_
                    · show _; omega
                    · show _ < _; omega
                    · exact Fr.Sub.cons (congrArg (fun z => some (Value.bool z)) (by rw [anyP, hnf]; rfl)) (Fr.Sub.cons rfl (Fr.Sub.nil _))
                    · exact Fr.Sub.cons rfl (Fr.Sub.cons rfl (Fr.Sub.cons rfl (Fr.Sub.cons rfl (Fr.Sub.cons rfl (Fr.Sub.cons rfl (Fr.Sub.cons rfl (Fr.Sub.nil _)))))))
                    · exact HSub.pick 0 rfl (HSub.pick 0 rfl (HSub.pick 0 rfl (HSub.pick 0 rfl (HSub.pick 0 rfl (HSub.nil _)))))
                  · have hfp : anyP nthP a b t u p = true := by simpa using h93
                    refine RunC.exit ?_
                    refine Ends.then_exit ?_
                    refine Ends.then_exit ?_
                    refine Ends.block_exit ?_
                    refine Ends.then ?_
                    refine RunC.seq ?_
                    refine RunC.region ?_
                    refine RunL.still rfl rfl rfl (Still.move rfl rfl) ?_
                    refine RunL.nil ?_
                    refine Ends.then ?_
                    refine RunC.cond rfl (fun h103 => ?_) (fun h103 => ?_)
                    · have h103p := h103
                      have h103 := anyP_mono h103 hp
                      refine RunC.region ?_
                      refine RunL.still rfl rfl rfl (Still.move rfl rfl) ?_
                      refine RunL.still rfl rfl rfl (Still.move rfl rfl) ?_
                      refine RunL.still rfl rfl rfl (Still.move rfl rfl) ?_
                      refine RunL.still rfl rfl rfl (Still.indexOwn rfl rfl rfl Tryz.underlying36 Tryz.sizeOf3 (fun _ hs => hs.own (i := 1) rfl) (by omega)) ?_
                      refine RunL.still rfl rfl rfl (Still.load rfl rfl Tryz.isAgg3 (fun w hs => own_at (hs.own (i := 1) rfl) (ints_get (getD_get' (by omega))))) ?_
                      refine RunL.still rfl rfl rfl (Still.indexOwnI (m := ((partsOf b).getD u 0).toNat) rfl rfl rfl Tryz.underlying71 Tryz.sizeOf4 (fun _ hs => hs.own (i := 0) rfl) (by omega) (by omega)) ?_
                      refine RunL.does0 rfl rfl (Does.storeOwn1 (xs' := (bools (used.set ((partsOf b).getD u 0).toNat true))) rfl rfl rfl rfl (i := 0) rfl Tryz.sizeOf4 rfl (by rw [length_bools]; show _ * 1 < used.length; rw [hul]; omega) (bools_set _ _ _)) (fun _ _ => ?_)
                      refine RunL.nil ?_
                      refine Ends.block ?_
                      refine Ends.then ?_
                      refine RunC.region ?_
                      refine RunL.still rfl rfl rfl (Still.move rfl rfl) ?_
                      refine RunL.still rfl rfl rfl (Still.add rfl rfl rfl (fits64 (by omega) (by omega))) ?_
                      refine RunL.still rfl rfl rfl (Still.assign rfl rfl) ?_
                      refine RunL.nil ?_
                      refine Ends.again (u + 1, some u) ?_ ?_ (Fr.Sub.app ?_ ?_) ?_
                      · exact ⟨by show u + 1 ≤ _; omega, (fun h => by cases h), fun v hv => by cases hv; exact ⟨by rw [hr0 rfl, show (partsOf b).length - u = ((partsOf b).length - (u + 1)) + 1 by omega, findU_hit h87 h103], by omega⟩⟩
                      · show _ - (u + 1) < _ - u; omega
                      · exact Fr.Sub.cons (congrArg (fun z => some (Value.bool z)) h103p) (Fr.Sub.cons rfl (Fr.Sub.nil _))
                      · exact Fr.Sub.cons rfl (Fr.Sub.cons rfl (Fr.Sub.cons rfl (Fr.Sub.cons rfl (Fr.Sub.cons rfl (Fr.Sub.cons rfl (Fr.Sub.nil _))))))
                      · exact HSub.pick 0 (by rfl) (HSub.pick 0 rfl (HSub.pick 0 rfl (HSub.pick 0 rfl (HSub.pick 0 rfl (HSub.nil _)))))
                    · have h103p := h103
                      refine RunC.skip ?_
                      refine Ends.block ?_
                      refine Ends.then ?_
                      refine RunC.region ?_
                      refine RunL.still rfl rfl rfl (Still.move rfl rfl) ?_
                      refine RunL.still rfl rfl rfl (Still.add rfl rfl rfl (fits64 (by omega) (by omega))) ?_
                      refine RunL.still rfl rfl rfl (Still.assign rfl rfl) ?_
                      refine RunL.nil ?_
                      refine Ends.again (u + 1, none) ?_ ?_ (Fr.Sub.app ?_ ?_) ?_
                      · exact ⟨by show u + 1 ≤ _; omega, fun _ => by rw [hr0 rfl, show (partsOf b).length - u = ((partsOf b).length - (u + 1)) + 1 by omega, findU_skip (fun h => by first | (rw [h103] at h; cases h.2) | (rw [hfp] at h103; cases h103))], fun v hv => by cases hv⟩
                      · show _ - (u + 1) < _ - u; omega
                      · exact Fr.Sub.cons (congrArg (fun z => some (Value.bool z)) h103p) (Fr.Sub.cons rfl (Fr.Sub.nil _))
                      · exact Fr.Sub.cons rfl (Fr.Sub.cons rfl (Fr.Sub.cons rfl (Fr.Sub.cons rfl (Fr.Sub.cons rfl (Fr.Sub.cons rfl (Fr.Sub.nil _))))))
                      · exact HSub.pick 0 rfl (HSub.pick 0 rfl (HSub.pick 0 rfl (HSub.pick 0 rfl (HSub.pick 0 rfl (HSub.nil _)))))
                · have h90 := of_decide_eq_false h90
                  obtain rfl : p = 24 := by omega
                  refine RunL.off rfl rfl rfl ?_
                  refine RunL.off rfl rfl rfl ?_
                  refine RunL.still rfl rfl rfl (Still.pickF rfl rfl rfl) ?_
                  refine RunL.nil ?_
                  refine Ends.then ?_
                  refine RunC.cond_false rfl ?_
                  refine RunC.exit ?_
                  refine Ends.then_exit ?_
                  refine Ends.then_exit ?_
                  refine Ends.block_exit ?_
                  refine Ends.then ?_
                  refine RunC.seq ?_
                  refine RunC.region ?_
                  refine RunL.still rfl rfl rfl (Still.move rfl rfl) ?_
                  refine RunL.nil ?_
                  refine Ends.then ?_
                  refine RunC.cond rfl (fun h103 => ?_) (fun h103 => ?_)
                  · have h103p := h103
                    have h103 := anyP_mono h103 hp
                    refine RunC.region ?_
                    refine RunL.still rfl rfl rfl (Still.move rfl rfl) ?_
                    refine RunL.still rfl rfl rfl (Still.move rfl rfl) ?_
                    refine RunL.still rfl rfl rfl (Still.move rfl rfl) ?_
                    refine RunL.still rfl rfl rfl (Still.indexOwn rfl rfl rfl Tryz.underlying36 Tryz.sizeOf3 (fun _ hs => hs.own (i := 1) rfl) (by omega)) ?_
                    refine RunL.still rfl rfl rfl (Still.load rfl rfl Tryz.isAgg3 (fun w hs => own_at (hs.own (i := 1) rfl) (ints_get (getD_get' (by omega))))) ?_
                    refine RunL.still rfl rfl rfl (Still.indexOwnI (m := ((partsOf b).getD u 0).toNat) rfl rfl rfl Tryz.underlying71 Tryz.sizeOf4 (fun _ hs => hs.own (i := 0) rfl) (by omega) (by omega)) ?_
                    refine RunL.does0 rfl rfl (Does.storeOwn1 (xs' := (bools (used.set ((partsOf b).getD u 0).toNat true))) rfl rfl rfl rfl (i := 0) rfl Tryz.sizeOf4 rfl (by rw [length_bools]; show _ * 1 < used.length; rw [hul]; omega) (bools_set _ _ _)) (fun _ _ => ?_)
                    refine RunL.nil ?_
                    refine Ends.block ?_
                    refine Ends.then ?_
                    refine RunC.region ?_
                    refine RunL.still rfl rfl rfl (Still.move rfl rfl) ?_
                    refine RunL.still rfl rfl rfl (Still.add rfl rfl rfl (fits64 (by omega) (by omega))) ?_
                    refine RunL.still rfl rfl rfl (Still.assign rfl rfl) ?_
                    refine RunL.nil ?_
                    refine Ends.again (u + 1, some u) ?_ ?_ (Fr.Sub.app ?_ ?_) ?_
                    · exact ⟨by show u + 1 ≤ _; omega, (fun h => by cases h), fun v hv => by cases hv; exact ⟨by rw [hr0 rfl, show (partsOf b).length - u = ((partsOf b).length - (u + 1)) + 1 by omega, findU_hit h87 h103], by omega⟩⟩
                    · show _ - (u + 1) < _ - u; omega
                    · exact Fr.Sub.cons (congrArg (fun z => some (Value.bool z)) h103p) (Fr.Sub.cons rfl (Fr.Sub.nil _))
                    · exact Fr.Sub.cons rfl (Fr.Sub.cons rfl (Fr.Sub.cons rfl (Fr.Sub.cons rfl (Fr.Sub.cons rfl (Fr.Sub.cons rfl (Fr.Sub.nil _))))))
                    · exact HSub.pick 0 (by rfl) (HSub.pick 0 rfl (HSub.pick 0 rfl (HSub.pick 0 rfl (HSub.pick 0 rfl (HSub.nil _)))))
                  · have h103p := h103
                    refine RunC.skip ?_
                    refine Ends.block ?_
                    refine Ends.then ?_
                    refine RunC.region ?_
                    refine RunL.still rfl rfl rfl (Still.move rfl rfl) ?_
                    refine RunL.still rfl rfl rfl (Still.add rfl rfl rfl (fits64 (by omega) (by omega))) ?_
                    refine RunL.still rfl rfl rfl (Still.assign rfl rfl) ?_
                    refine RunL.nil ?_
                    refine Ends.again (u + 1, none) ?_ ?_ (Fr.Sub.app ?_ ?_) ?_
                    · exact ⟨by show u + 1 ≤ _; omega, fun _ => by rw [hr0 rfl, show (partsOf b).length - u = ((partsOf b).length - (u + 1)) + 1 by omega, findU_skip (fun h => by first | (rw [h103] at h; cases h.2) | (rw [hfp] at h103; cases h103))], fun v hv => by cases hv⟩
                    · show _ - (u + 1) < _ - u; omega
                    · exact Fr.Sub.cons (congrArg (fun z => some (Value.bool z)) h103p) (Fr.Sub.cons rfl (Fr.Sub.nil _))
                    · exact Fr.Sub.cons rfl (Fr.Sub.cons rfl (Fr.Sub.cons rfl (Fr.Sub.cons rfl (Fr.Sub.cons rfl (Fr.Sub.cons rfl (Fr.Sub.nil _))))))
                    · exact HSub.pick 0 rfl (HSub.pick 0 rfl (HSub.pick 0 rfl (HSub.pick 0 rfl (HSub.pick 0 rfl (HSub.nil _)))))
            · skip
              refine RunC.exit ?_
              refine Ends.then_exit ?_
              refine Ends.then_exit ?_
              refine Ends.block_exit ?_
              refine Ends.then ?_
              refine RunC.seq ?_
              refine RunC.region ?_
              refine RunL.still rfl rfl rfl (Still.move rfl rfl) ?_
              refine RunL.still rfl rfl rfl (Still.not rfl rfl) ?_
              refine RunL.nil ?_
              refine Ends.then ?_
              refine RunC.cond rfl (fun h111 => ?_) (fun h111 => ?_)
              · have hrn : r = none := by cases r; rfl; simp at h111
                first | (exact (rn_fail hT hseen (by rw [hr0 hrn, show (partsOf b).length - b.length = 0 by omega]; rfl) htN hyes).elim) | (subst hrn; simp at h78)
              · have hnx := rn_next hT hseen (r := r) (by simpa using h111) hr1
                refine RunC.skip ?_
                refine Ends.block ?_
                refine Ends.then ?_
                refine RunC.region ?_
                refine RunL.still rfl rfl rfl (Still.move rfl rfl) ?_
                refine RunL.still rfl rfl rfl (Still.add rfl rfl rfl (fits64 (by omega) (by omega))) ?_
                refine RunL.still rfl rfl rfl (Still.assign rfl rfl) ?_
                refine RunL.nil ?_
                refine Ends.again (t + 1, usedOf (partsOf b) used r) ?_ ?_ (Fr.Sub.app ?_ ?_) ?_
                · exact ⟨by show t + 1 ≤ _; omega, hnx, by cases r <;> simp [usedOf, hul]⟩
                · show _ - (t + 1) < _ - t; omega
                · exact Fr.Sub.cons rfl (Fr.Sub.nil _)
                · exact Fr.Sub.cons rfl (Fr.Sub.cons rfl (Fr.Sub.cons rfl (Fr.Sub.cons rfl (Fr.Sub.cons rfl (Fr.Sub.nil _)))))
                · exact HSub.pick 0 rfl (HSub.pick 0 rfl (HSub.pick 0 rfl (HSub.pick 0 rfl (HSub.pick 0 rfl (HSub.nil _)))))
          · have h75 := of_decide_eq_false h75
            obtain rfl : u = b.length := by omega
            refine RunL.off rfl rfl rfl ?_
            refine RunL.off rfl rfl rfl ?_
            refine RunL.still rfl rfl rfl (Still.pickF rfl rfl rfl) ?_
            refine RunL.nil ?_
            refine Ends.then ?_
            refine RunC.cond_false rfl ?_
            refine RunC.exit ?_
            refine Ends.then_exit ?_
            refine Ends.then_exit ?_
            refine Ends.block_exit ?_
            refine Ends.then ?_
            refine RunC.seq ?_
            refine RunC.region ?_
            refine RunL.still rfl rfl rfl (Still.move rfl rfl) ?_
            refine RunL.still rfl rfl rfl (Still.not rfl rfl) ?_
            refine RunL.nil ?_
            refine Ends.then ?_
            refine RunC.cond rfl (fun h111 => ?_) (fun h111 => ?_)
            · have hrn : r = none := by cases r; rfl; simp at h111
              first | (exact (rn_fail hT hseen (by rw [hr0 hrn, show (partsOf b).length - b.length = 0 by omega]; rfl) htN hyes).elim) | (subst hrn; simp at h78)
            · have hnx := rn_next hT hseen (r := r) (by simpa using h111) hr1
              refine RunC.skip ?_
              refine Ends.block ?_
              refine Ends.then ?_
              refine RunC.region ?_
              refine RunL.still rfl rfl rfl (Still.move rfl rfl) ?_
              refine RunL.still rfl rfl rfl (Still.add rfl rfl rfl (fits64 (by omega) (by omega))) ?_
              refine RunL.still rfl rfl rfl (Still.assign rfl rfl) ?_
              refine RunL.nil ?_
              refine Ends.again (t + 1, usedOf (partsOf b) used r) ?_ ?_ (Fr.Sub.app ?_ ?_) ?_
              · exact ⟨by show t + 1 ≤ _; omega, hnx, by cases r <;> simp [usedOf, hul]⟩
              · show _ - (t + 1) < _ - t; omega
              · exact Fr.Sub.cons rfl (Fr.Sub.nil _)
              · exact Fr.Sub.cons rfl (Fr.Sub.cons rfl (Fr.Sub.cons rfl (Fr.Sub.cons rfl (Fr.Sub.cons rfl (Fr.Sub.nil _)))))
              · exact HSub.pick 0 rfl (HSub.pick 0 rfl (HSub.pick 0 rfl (HSub.pick 0 rfl (HSub.pick 0 rfl (HSub.nil _)))))
    · have h49 := of_decide_eq_false h49
      refine RunC.exit ?_
      refine Ends.then_exit ?_
      refine Ends.then_exit ?_
      refine Ends.block_exit ?_
      refine Ends.then ?_
      refine RunC.seq ?_
      refine RunC.region ?_
      refine RunL.still rfl rfl rfl (Still.assign rfl rfl) ?_
      refine RunL.nil ?_
      refine Ends.then ?_
      refine RunC.ret ?_
      refine Ends.leave (.inl rfl) (fun _ _ ok => results1 Tryz.results35 (Holds.tmp rfl) ok) (fun w1 hs => ?_)
      exact Ret.intro () trivial rfl (HSub.nil _) hs

end Go.Proofs
/- The laws of renumbering. -/
namespace Go.V
open Go
theorem inj_surj : ∀ (n : Nat) (f : Nat → Nat), (∀ i, i < n → f i < n) → (∀ i j, i < n → j < n → f i = f j → i = j) → ∀ t, t < n → ∃ i, i < n ∧ f i = t
  | 0, _, _, _, t, ht => absurd ht (Nat.not_lt_zero _)
  | n + 1, f, hl, hi, t, ht => by
    have hg : ∀ i, i < n → (if f i = n then f n else f i) < n := fun i hin => by
      split
      · rename_i e
        have h1 := hl n (by omega)
        have h2 : f n ≠ n := fun e2 => by have := hi i n (by omega) (by omega) (by rw [e, e2]); omega
        omega
      · have := hl i (by omega); omega
    have hgi : ∀ i j, i < n → j < n → (if f i = n then f n else f i) = (if f j = n then f n else f j) → i = j := fun i j hin hjn e => by
      split at e <;> split at e
      · rename_i a b; exact hi i j (by omega) (by omega) (by rw [a, b])
      · have := hi n j (by omega) (by omega) e; omega
      · have := hi i n (by omega) (by omega) e; omega
      · exact hi i j (by omega) (by omega) e
    have ih := inj_surj n (fun i => if f i = n then f n else f i) hg hgi
    by_cases e1 : t = f n
    · exact ⟨n, by omega, e1.symm⟩
    · by_cases e2 : t = n
      · subst e2
        have h1 := hl t (by omega)
        obtain ⟨i, hin, e⟩ := ih (f t) (by omega)
        have e : (if f i = t then f t else f i) = f t := e
        split at e
        · rename_i h; exact ⟨i, by omega, h⟩
        · have := hi i t (by omega) (by omega) e; omega
      · obtain ⟨i, hin, e⟩ := ih t (by omega)
        have e : (if f i = n then f n else f i) = t := e
        split at e
        · exact absurd e.symm e1
        · exact ⟨i, by omega, e⟩
theorem inj_le {m n : Nat} {f : Nat → Nat} (hl : ∀ i, i < m → f i < n) (hi : ∀ i j, i < m → j < m → f i = f j → i = j) : m ≤ n := by
  rcases Nat.lt_or_ge n m with h | h
  · exfalso
    obtain ⟨i, hin, e⟩ := inj_surj (n + 1) f (fun i h2 => by have := hl i (by omega); omega) (fun i j h1 h2 => hi i j (by omega) (by omega)) n (by omega)
    have := hl i (by omega); omega
  · exact h
/-- An order, forth and back. -/
structure OrdF (xs : List Int) (n : Nat) (X B : Nat → Nat) : Prop where
  val : ∀ i, i < n → xs.getD i 0 = (X i : Int)
  lt : ∀ i, i < n → X i < n
  bk : ∀ t, t < n → bkI xs n (t : Int) = (B t : Int)
  blt : ∀ t, t < n → B t < n
  xb : ∀ t, t < n → X (B t) = t
  bx : ∀ i, i < n → B (X i) = i
theorem mtTo_iff {xs : List Int} {n : Nat} (h : ordTo xs n n = true) : ∀ i, i ≤ n → ∀ k, k < n → ((mtTo xs n i).getD k false = true ↔ ∃ j, j < i ∧ (xs.getD j 0).toNat = k)
  | 0, _, k, hk => by simp [mtTo, List.getD_eq_getElem?_getD, hk]
  | i + 1, hi, k, hk => by
    have hb := ordTo_at h (show i < n by omega)
    rw [mtTo]
    by_cases e : (xs.getD i 0).toNat = k
    · subst e
      rw [getB_set_self (by rw [mtTo_len]; omega)]
      exact ⟨fun _ => ⟨i, by omega, rfl⟩, fun _ => rfl⟩
    · rw [getB_set_ne e, mtTo_iff h i (by omega) k hk]
      exact ⟨fun ⟨j, hj, e2⟩ => ⟨j, by omega, e2⟩, fun ⟨j, hj, e2⟩ => by
        rcases Nat.lt_or_ge j i with h1 | h1
        · exact ⟨j, h1, e2⟩
        · obtain rfl : j = i := by omega
          exact absurd e2 e⟩
theorem ord_inj {xs : List Int} {n : Nat} (h : ordTo xs n n = true) {i j : Nat} (hi : i < n) (hj : j < n) (e : (xs.getD i 0).toNat = (xs.getD j 0).toNat) : i = j := by
  have key : ∀ i j, i < j → j < n → (xs.getD i 0).toNat ≠ (xs.getD j 0).toNat := fun i j hij hj e => by
    have h1 := ordTo_le h (show j + 1 ≤ n by omega)
    rw [ordTo, Bool.and_eq_true, Bool.and_eq_true] at h1
    have hb := ordTo_at h hj
    have := (mtTo_iff h j (by omega) (xs.getD j 0).toNat (by omega)).2 ⟨i, hij, e⟩
    rw [this] at h1
    exact absurd h1.2 (by decide)
  rcases Nat.lt_trichotomy i j with h1 | h1 | h1
  · exact absurd e (key i j h1 hj)
  · exact h1
  · exact absurd e.symm (key j i h1 hi)
theorem bkTo_val {xs : List Int} {n : Nat} (h : ordTo xs n n = true) : ∀ i, i ≤ n → ∀ j, j < i → (bkTo xs n i).getD (xs.getD j 0).toNat 0 = (j : Int)
  | 0, _, j, hj => absurd hj (Nat.not_lt_zero _)
  | i + 1, hi, j, hj => by
    have hb := ordTo_at h (show i < n by omega)
    rw [bkTo]
    by_cases e : j = i
    · subst e; exact getD_set_self' (by rw [bkTo_len]; omega)
    · rw [getD_set_ne' (fun e2 => e (ord_inj h (by omega) (by omega) e2.symm))]
      exact bkTo_val h i (by omega) j (by omega)
theorem ord_F {xs : List Int} {n : Nat} (h : ordTo xs n n = true) : OrdF xs n (fun i => (xs.getD i 0).toNat) (fun t => (bkI xs n (t : Int)).toNat) := by
  have hs := inj_surj n (fun i => (xs.getD i 0).toNat) (fun i hi => by have := ordTo_at h hi; show (xs.getD i 0).toNat < n; omega) (fun i j hi hj e => ord_inj h hi hj e)
  have hb : ∀ i, i < n → bkI xs n (((xs.getD i 0).toNat : Nat) : Int) = (i : Int) := fun i hi => by
    rw [bkI, Int.toNat_natCast]; exact bkTo_val h n (Nat.le_refl _) i hi
  refine ⟨fun i hi => by have := ordTo_at h hi; show xs.getD i 0 = ((xs.getD i 0).toNat : Int); omega, fun i hi => by have := ordTo_at h hi; show (xs.getD i 0).toNat < n; omega, fun t ht => ?_, fun t ht => ?_, fun t ht => ?_, fun i hi => ?_⟩
  · have := bkTo_bound xs n (by omega) n (Nat.le_refl _) (((t : Nat) : Int)).toNat
    show bkI xs n t = ((bkI xs n t).toNat : Int)
    rw [bkI]; omega
  · obtain ⟨i, hi, e⟩ := hs t ht
    have e : (xs.getD i 0).toNat = t := e
    subst e
    show (bkI xs n _).toNat < n
    rw [hb i hi]; simpa using hi
  · obtain ⟨i, hi, e⟩ := hs t ht
    have e : (xs.getD i 0).toNat = t := e
    subst e
    show (xs.getD (bkI xs n _).toNat 0).toNat = _
    rw [hb i hi]; simp
  · show (bkI xs n (((xs.getD i 0).toNat : Nat) : Int)).toNat = i
    rw [hb i hi]; simp
theorem renG_at {g : Glu} {xs : List Int} {ps : List P4} {i f : Nat} (hi : i < g.length) (hf : f < 4) : fAt (renG g xs ps) i f = renH g xs ps i f := by
  have e : tAt (renG g xs ps) i = renRow g xs ps i := tAt_eq (by simp [renG, hi])
  rw [fAt, e]
  match f, hf with
  | 0, _ => rfl
  | 1, _ => rfl
  | 2, _ => rfl
  | 3, _ => rfl
section ren
variable {g : Glu} {xs : List Int} {ps : List P4} {X B : Nat → Nat}
theorem ren_free (hX : OrdF xs g.length X B) {i f : Nat} (hi : i < g.length) (hf : f < 4) (h : (fAt g (X i) ((pAt ps i).at f).toNat).tet < 0) : fAt (renG g xs ps) i f = noF := by
  rw [renG_at hi hf, renH, hX.val i hi, Int.toNat_natCast, renF_neg h]
theorem ren_glue (hX : OrdF xs g.length X B) {i f : Nat} (hi : i < g.length) (hf : f < 4) (h : 0 ≤ (fAt g (X i) ((pAt ps i).at f).toNat).tet) (h2 : (fAt g (X i) ((pAt ps i).at f).toNat).tet.toNat < g.length) :
    fAt (renG g xs ps) i f = ⟨(B (fAt g (X i) ((pAt ps i).at f).toNat).tet.toNat : Int), compP (invP (pAt ps (B (fAt g (X i) ((pAt ps i).at f).toNat).tet.toNat))) (compP (fAt g (X i) ((pAt ps i).at f).toNat).p (pAt ps i))⟩ := by
  rw [renG_at hi hf, renH, hX.val i hi, Int.toNat_natCast, renF_pos (by omega)]
  have e := hX.bk _ h2
  rw [show (((fAt g (X i) ((pAt ps i).at f).toNat).tet.toNat : Nat) : Int) = (fAt g (X i) ((pAt ps i).at f).toNat).tet by omega] at e
  rw [e, Int.toNat_natCast]
theorem pAt_ok (hps : ps.all okP = true) (hl : ps.length = g.length) {i : Nat} (hi : i < g.length) : okP (pAt ps i) = true := okP_all hps (pAt_get (by omega))
theorem ren_okG (hg : okG g = true) (hX : OrdF xs g.length X B) (hps : ps.all okP = true) (hl : ps.length = g.length) : okG (renG g xs ps) = true := by
  refine okG_of (by rw [renG_len]; exact okG_len hg) fun i f hi hf => faceOk_iff.2 ?_
  rw [renG_len] at hi
  have hp := pAt_ok hps hl hi
  have hp4 := p4_range hp (f := f)
  by_cases h0 : (fAt g (X i) ((pAt ps i).at f).toNat).tet < 0
  · exact .inl (ren_free hX hi hf h0)
  · have hF := okG_glued hg (hX.lt i hi) hp4 (by omega)
    have hw := okG_hi hg (hX.lt i hi) hp4 hF.lo
    have e := ren_glue (ps := ps) hX hi hf hF.lo hw
    have hk := hX.blt _ hw
    have hq := pAt_ok hps hl hk
    have hnew := comp_ok (invP_ok hq) (comp_ok hF.ok hp)
    refine .inr ⟨by rw [e]; exact Int.natCast_nonneg _, by rw [e, renG_len]; show ((B _ : Nat) : Int) < _; omega, by rw [e]; exact hnew, fun h => ?_, ?_⟩
    · rw [e] at h
      have h1 : B (fAt g (X i) ((pAt ps i).at f).toNat).tet.toNat = i := Int.ofNat_inj.1 h.1
      have h2 : (compP (invP (pAt ps (B (fAt g (X i) ((pAt ps i).at f).toNat).tet.toNat))) (compP (fAt g (X i) ((pAt ps i).at f).toNat).p (pAt ps i))).at f = f := h.2
      have h3 := hX.xb _ hw
      rw [h1] at h3 h2
      refine hF.ne ⟨by omega, ?_⟩
      rw [comp_at _ _ hf, comp_at _ _ hf] at h2
      have hr := okP_at hF.ok ((pAt ps i).at f).toNat
      have h4 := congrArg (fun z : Int => (pAt ps i).at z.toNat) h2
      rw [at_inv hp (by omega), Int.toNat_natCast] at h4
      have := okP_at hp f
      omega
    · rw [e]
      show fAt (renG g xs ps) (((B (fAt g (X i) ((pAt ps i).at f).toNat).tet.toNat : Nat) : Int)).toNat ((compP (invP (pAt ps (B (fAt g (X i) ((pAt ps i).at f).toNat).tet.toNat))) (compP (fAt g (X i) ((pAt ps i).at f).toNat).p (pAt ps i))).at f).toNat = _
      rw [Int.toNat_natCast]
      have hr := okP_at hF.ok ((pAt ps i).at f).toNat
      have hf2 := p4_range hnew (f := f)
      have e3 : (pAt ps (B (fAt g (X i) ((pAt ps i).at f).toNat).tet.toNat)).at ((compP (invP (pAt ps (B (fAt g (X i) ((pAt ps i).at f).toNat).tet.toNat))) (compP (fAt g (X i) ((pAt ps i).at f).toNat).p (pAt ps i))).at f).toNat = (fAt g (X i) ((pAt ps i).at f).toNat).p.at ((pAt ps i).at f).toNat := by
        rw [comp_at _ _ hf, comp_at _ _ hf, at_inv hq (by omega)]; omega
      have e4 := hX.xb _ hw
      have hb := hF.back
      have e5 := ren_glue (ps := ps) hX hk hf2 (by rw [e4, e3, hb]; exact Int.natCast_nonneg _) (by rw [e4, e3, hb]; simpa using hX.lt i hi)
      rw [e5, e4, e3, hb]
      show Fc.mk ((B (((X i : Nat) : Int)).toNat : Nat) : Int) (compP (invP (pAt ps (B (((X i : Nat) : Int)).toNat))) (compP (invP (fAt g (X i) ((pAt ps i).at f).toNat).p) _)) = _
      rw [Int.toNat_natCast, hX.bx i hi, inv_comp_rev (invP_ok hq) (comp_ok hF.ok hp), inv_comp_rev hF.ok hp, invP_inv hq, comp_assoc hq]
/-- The renumbered gluing is carried into the gluing. -/
theorem ren_Mt (hg : okG g = true) (hX : OrdF xs g.length X B) (hps : ps.all okP = true) (hl : ps.length = g.length) {t : Nat} (ht : t < g.length) : Mt (renG g xs ps) g t (X t) X (pAt ps) := by
  have hr := ren_okG hg hX hps hl
  have hv : ∀ v, Cn (renG g xs ps) t v → v < g.length := fun v h => by have := h.lt hr (by rw [renG_len]; exact ht); rwa [renG_len] at this
  refine ⟨rfl, fun v h => ⟨hX.lt v (hv v h), pAt_ok hps hl (hv v h)⟩, fun v v' h h' e => by rw [← hX.bx v (hv v h), e, hX.bx v' (hv v' h')], fun v f h hf => ?_, fun v f h hf h0 => ?_⟩
  · have hi := hv v h
    have hp4 := p4_range (pAt_ok hps hl hi) (f := f)
    by_cases h0 : (fAt g (X v) ((pAt ps v).at f).toNat).tet < 0
    · rw [ren_free hX hi hf h0]; exact ⟨fun _ => h0, fun _ => by decide⟩
    · rw [ren_glue hX hi hf (by omega) (okG_hi hg (hX.lt v hi) hp4 (by omega))]
      exact ⟨fun h1 => by have h1 : ((B _ : Nat) : Int) < 0 := h1; omega, fun h1 => absurd h1 h0⟩
  · have hi := hv v h
    have hp := pAt_ok hps hl hi
    have hp4 := p4_range hp (f := f)
    by_cases h1 : (fAt g (X v) ((pAt ps v).at f).toNat).tet < 0
    · rw [ren_free hX hi hf h1] at h0; exact absurd h0 (by decide)
    · have hF := okG_glued hg (hX.lt v hi) hp4 (by omega)
      have hw := okG_hi hg (hX.lt v hi) hp4 hF.lo
      have hq := pAt_ok hps hl (hX.blt _ hw)
      rw [ren_glue hX hi hf hF.lo hw]
      show (fAt g (X v) ((pAt ps v).at f).toNat).tet = ((X (((B (fAt g (X v) ((pAt ps v).at f).toNat).tet.toNat : Nat) : Int)).toNat : Nat) : Int) ∧ pAt ps (((B (fAt g (X v) ((pAt ps v).at f).toNat).tet.toNat : Nat) : Int)).toNat = _
      rw [Int.toNat_natCast, hX.xb _ hw]
      have hlo := hF.lo
      refine ⟨by omega, ?_⟩
      show pAt ps _ = compP _ (compP _ (invP (compP (invP _) (compP _ _))))
      rw [inv_comp_rev (invP_ok hq) (comp_ok hF.ok hp), inv_comp_rev hF.ok hp, invP_inv hq, comp_assoc (p := invP (pAt ps v)) hq, ← comp_assoc (p := pAt ps v) (comp_ok (invP_ok hF.ok) hq), comp_inv hp, id_comp (comp_ok (invP_ok hF.ok) hq), ← comp_assoc hq, comp_inv hF.ok, id_comp hq]
theorem ren_Cn (hg : okG g = true) (hX : OrdF xs g.length X B) (hps : ps.all okP = true) (hl : ps.length = g.length) {t u : Nat} (ht : t < g.length) (hu : u < g.length) : Cn (renG g xs ps) t u ↔ Cn g (X t) (X u) := by
  have hm := ren_Mt hg hX hps hl ht
  have hr := ren_okG hg hX hps hl
  constructor
  · exact fun h => hm.image h
  · intro h
    obtain ⟨v, hv, e⟩ := hm.onto hr (by rw [renG_len]; exact ht) h
    have hvl := hv.lt hr (by rw [renG_len]; exact ht)
    rw [renG_len] at hvl
    have : v = u := by rw [← hX.bx v hvl, e, hX.bx u hu]
    rwa [this] at hv
/-- Its parts are those of the gluing. -/
theorem ren_PB (hg : okG g = true) (hX : OrdF xs g.length X B) (hps : ps.all okP = true) (hl : ps.length = g.length) : ∃ σ ρ, PB (renG g xs ps) g σ ρ := by
  classical
  have hr := ren_okG hg hX hps hl
  have hrl := renG_len g xs ps
  have f1 : ∀ i, i < pn (renG g xs ps) → ∃ t, t < g.length ∧ lb (renG g xs ps) t = i := fun i hi => by
    obtain ⟨t, ht, e⟩ := lb_onto hr hi; exact ⟨t, by rwa [hrl] at ht, e⟩
  have f2 : ∀ r, r < pn g → ∃ u, u < g.length ∧ lb g u = r := fun r hr' => lb_onto hg hr'
  let σ : Nat → Nat := fun i => if h : i < pn (renG g xs ps) then lb g (X (Classical.choose (f1 i h))) else 0
  let ρ : Nat → Nat := fun r => if h : r < pn g then lb (renG g xs ps) (B (Classical.choose (f2 r h))) else 0
  have hσ : ∀ v, v < g.length → σ (lb (renG g xs ps) v) = lb g (X v) := fun v hv => by
    have hi := lb_lt hr (t := v) (by rw [hrl]; exact hv)
    have hs := Classical.choose_spec (f1 _ hi)
    simp only [σ, hi, dif_pos]
    refine (lb_iff hg (hX.lt _ hs.1) (hX.lt v hv)).2 ((ren_Cn hg hX hps hl hs.1 hv).1 ?_)
    exact (lb_iff hr (by rw [hrl]; exact hs.1) (by rw [hrl]; exact hv)).1 hs.2
  have hρ : ∀ u, u < g.length → ρ (lb g u) = lb (renG g xs ps) (B u) := fun u hu => by
    have hi := lb_lt hg hu
    have hs := Classical.choose_spec (f2 _ hi)
    simp only [ρ, hi, dif_pos]
    refine (lb_iff hr (by rw [hrl]; exact hX.blt _ hs.1) (by rw [hrl]; exact hX.blt u hu)).2 ((ren_Cn hg hX hps hl (hX.blt _ hs.1) (hX.blt u hu)).2 ?_)
    rw [hX.xb _ hs.1, hX.xb u hu]
    exact (lb_iff hg hs.1 hu).1 hs.2
  refine ⟨σ, ρ, fun i hi => ?_, fun r hr' => ?_, fun i hi => ?_⟩
  · obtain ⟨t, ht, rfl⟩ := f1 i hi
    rw [hσ t ht, hρ _ (hX.lt t ht), hX.bx t ht]
    exact ⟨lb_lt hg (hX.lt t ht), rfl⟩
  · obtain ⟨u, hu, rfl⟩ := f2 r hr'
    rw [hρ u hu, hσ _ (hX.blt u hu), hX.xb u hu]
    exact ⟨lb_lt hr (by rw [hrl]; exact hX.blt u hu), rfl⟩
  · obtain ⟨t, ht, rfl⟩ := f1 i hi
    exact ⟨t, X t, by rw [hrl]; exact ht, hX.lt t ht, rfl, (hσ t ht).symm, X, pAt ps, ren_Mt hg hX hps hl ht⟩
theorem PB.eq {a b : Glu} (ha : okG a = true) (hb : okG b = true) {σ ρ : Nat → Nat} (h : PB a b σ ρ) : partsN a = partsN b := by
  have h1 : pn a ≤ pn b := inj_le (f := σ) (fun i hi => (h.s1 i hi).1) (fun i j hi hj e => by rw [← (h.s1 i hi).2, e, (h.s1 j hj).2])
  have h2 : pn b ≤ pn a := inj_le (f := ρ) (fun i hi => (h.s2 i hi).1) (fun i j hi hj e => by rw [← (h.s2 i hi).2, e, (h.s2 j hj).2])
  have p1 : 0 ≤ partsN a := (parts_A ha).pos
  have p2 : 0 ≤ partsN b := (parts_A hb).pos
  rw [pn, pn] at h1 h2; omega
/-- An orientation is carried. -/
theorem ren_ori (hg : okG g = true) (hX : OrdF xs g.length X B) (hps : ps.all okP = true) (hl : ps.length = g.length) : (oriG (renG g xs ps)).isSome = (oriG g).isSome := by
  have hr := ren_okG hg hX hps hl
  have key : (oriG (renG g xs ps)).isSome = true ↔ (oriG g).isSome = true := by
    rw [ori_iff hr, ori_iff hg]
    constructor
    · rintro ⟨o, ho⟩
      refine ⟨fun t => o (B t) * sgnP (pAt ps (B t)), fun t ht => ?_, fun t f ht hf h0 => ?_⟩
      · have h1 := ho.one (B t) (by rw [renG_len]; exact hX.blt t ht)
        have h2 := sgnP_one (pAt ps (B t))
        show o (B t) * sgnP (pAt ps (B t)) = 1 ∨ o (B t) * sgnP (pAt ps (B t)) = -1
        rcases h1 with h1 | h1 <;> rcases h2 with h2 | h2 <;> rw [h1, h2] <;> decide
      · have hb := hX.blt t ht
        have hp := pAt_ok hps hl hb
        have hf' := p4_range (invP_ok hp) (f := f)
        have e1 : ((pAt ps (B t)).at ((invP (pAt ps (B t))).at f).toNat).toNat = f := by rw [at_inv hp hf]; simp
        have hF := okG_glued hg ht hf h0
        have hw := okG_hi hg ht hf h0
        have hq := pAt_ok hps hl (hX.blt _ hw)
        have e := ren_glue (ps := ps) hX hb hf' (by rw [hX.xb t ht, e1]; exact h0) (by rw [hX.xb t ht, e1]; exact hw)
        rw [hX.xb t ht, e1] at e
        have := ho.glued (B t) _ (by rw [renG_len]; exact hb) hf' (by rw [e]; exact Int.natCast_nonneg _)
        rw [e] at this
        have this : o (((B (fAt g t f).tet.toNat : Nat) : Int)).toNat = -sgnP (compP (invP (pAt ps (B (fAt g t f).tet.toNat))) (compP (fAt g t f).p (pAt ps (B t)))) * o (B t) := this
        rw [Int.toNat_natCast, sgn_comp (invP_ok hq) (comp_ok hF.ok hp), sgn_comp hF.ok hp, sgn_inv hq] at this
        show o (B (fAt g t f).tet.toNat) * sgnP (pAt ps (B (fAt g t f).tet.toNat)) = -sgnP (fAt g t f).p * (o (B t) * sgnP (pAt ps (B t)))
        rw [this]
        rcases sgnP_one (pAt ps (B (fAt g t f).tet.toNat)) with s1 | s1 <;> rcases sgnP_one (fAt g t f).p with s2 | s2 <;> rcases sgnP_one (pAt ps (B t)) with s3 | s3 <;> rw [s1, s2, s3] <;> omega
    · rintro ⟨o, ho⟩
      refine ⟨fun i => o (X i) * sgnP (pAt ps i), fun i hi => ?_, fun i f hi hf h0 => ?_⟩
      · rw [renG_len] at hi
        have h1 := ho.one (X i) (hX.lt i hi)
        have h2 := sgnP_one (pAt ps i)
        show o (X i) * sgnP (pAt ps i) = 1 ∨ o (X i) * sgnP (pAt ps i) = -1
        rcases h1 with h1 | h1 <;> rcases h2 with h2 | h2 <;> rw [h1, h2] <;> decide
      · rw [renG_len] at hi
        have hp := pAt_ok hps hl hi
        have hp4 := p4_range hp (f := f)
        by_cases h1 : (fAt g (X i) ((pAt ps i).at f).toNat).tet < 0
        · rw [ren_free hX hi hf h1] at h0; exact absurd h0 (by decide)
        · have hF := okG_glued hg (hX.lt i hi) hp4 (by omega)
          have hw := okG_hi hg (hX.lt i hi) hp4 hF.lo
          have hq := pAt_ok hps hl (hX.blt _ hw)
          have := ho.glued (X i) _ (hX.lt i hi) hp4 hF.lo
          rw [ren_glue hX hi hf hF.lo hw]
          show o (X (((B (fAt g (X i) ((pAt ps i).at f).toNat).tet.toNat : Nat) : Int)).toNat) * sgnP (pAt ps (((B (fAt g (X i) ((pAt ps i).at f).toNat).tet.toNat : Nat) : Int)).toNat) = -sgnP (compP _ (compP _ _)) * (o (X i) * sgnP (pAt ps i))
          rw [Int.toNat_natCast, hX.xb _ hw, this, sgn_comp (invP_ok hq) (comp_ok hF.ok hp), sgn_comp hF.ok hp, sgn_inv hq]
          rcases sgnP_one (pAt ps (B (fAt g (X i) ((pAt ps i).at f).toNat).tet.toNat)) with s1 | s1 <;> rcases sgnP_one (fAt g (X i) ((pAt ps i).at f).toNat).p with s2 | s2 <;> rcases sgnP_one (pAt ps i) with s3 | s3 <;> rw [s1, s2, s3] <;> omega
  cases h3 : (oriG (renG g xs ps)).isSome <;> cases h4 : (oriG g).isSome <;> simp_all
end ren
end Go.V
/- Renumbering twice, and back. -/
namespace Go.V
open Go
theorem mtTo_iff' {xs : List Int} {n : Nat} (h : ∀ i, i < n → 0 ≤ xs.getD i 0 ∧ xs.getD i 0 < n) : ∀ i, i ≤ n → ∀ k, k < n → ((mtTo xs n i).getD k false = true ↔ ∃ j, j < i ∧ (xs.getD j 0).toNat = k)
  | 0, _, k, hk => by simp [mtTo, List.getD_eq_getElem?_getD, hk]
  | i + 1, hi, k, hk => by
    have hb := h i (by omega)
    rw [mtTo]
    by_cases e : (xs.getD i 0).toNat = k
    · subst e
      rw [getB_set_self (by rw [mtTo_len]; omega)]
      exact ⟨fun _ => ⟨i, by omega, rfl⟩, fun _ => rfl⟩
    · rw [getB_set_ne e, mtTo_iff' h i (by omega) k hk]
      exact ⟨fun ⟨j, hj, e2⟩ => ⟨j, by omega, e2⟩, fun ⟨j, hj, e2⟩ => by
        rcases Nat.lt_or_ge j i with h1 | h1
        · exact ⟨j, h1, e2⟩
        · obtain rfl : j = i := by omega
          exact absurd e2 e⟩
theorem ord_of {xs : List Int} {n : Nat} (h : ∀ i, i < n → 0 ≤ xs.getD i 0 ∧ xs.getD i 0 < n) (hi : ∀ i j, i < n → j < n → (xs.getD i 0).toNat = (xs.getD j 0).toNat → i = j) : ordTo xs n n = true := by
  have key : ∀ k, k ≤ n → ordTo xs n k = true := by
    intro k
    induction k with
    | zero => exact fun _ => rfl
    | succ k ih =>
      intro hk
      have hb := h k (by omega)
      rw [ordTo, ih (by omega)]
      cases hm : (mtTo xs n k).getD (xs.getD k 0).toNat false
      · rw [decide_eq_true hb]; rfl
      · obtain ⟨j, hj, e⟩ := (mtTo_iff' h k (by omega) _ (by omega)).1 hm
        have := hi j k (by omega) (by omega) e; omega
  exact key n (Nat.le_refl _)
theorem OrdF.of {xs : List Int} {n : Nat} {Z E : Nat → Nat} (hv : ∀ i, i < n → xs.getD i 0 = (Z i : Int)) (hz : ∀ i, i < n → Z i < n) (he : ∀ t, t < n → E t < n ∧ Z (E t) = t) (hez : ∀ i, i < n → E (Z i) = i) : ordTo xs n n = true ∧ OrdF xs n Z E := by
  have ho : ordTo xs n n = true := ord_of (fun i hi => by rw [hv i hi]; have := hz i hi; omega) (fun i j hi hj e => by
    rw [hv i hi, hv j hj] at e
    rw [← hez i hi, ← hez j hj, show Z i = Z j by simpa using e])
  refine ⟨ho, hv, hz, fun t ht => ?_, fun t ht => (he t ht).1, fun t ht => (he t ht).2, hez⟩
  have hF := ord_F ho
  have h1 := hF.bk t ht
  have h2 := hF.xb t ht
  have h3 := hF.blt t ht
  rw [h1]
  generalize (bkI xs n (t : Int)).toNat = k at h2 h3 ⊢
  have h2 : (xs.getD k 0).toNat = t := h2
  rw [hv k h3] at h2
  have h2 : Z k = t := by simpa using h2
  show (k : Int) = E t
  rw [← h2, hez k h3]
section two
variable {g : Glu} {xs ys bs : List Int} {ps qs cs : List P4} {X B Y D : Nat → Nat}
theorem ren_ren (hg : okG g = true) (hX : OrdF xs g.length X B) (hps : ps.all okP = true) (hpl : ps.length = g.length) (hY : OrdF ys g.length Y D) (hqs : qs.all okP = true) (hql : qs.length = g.length)
    (hb : OrdF bs g.length (fun i => X (Y i)) (fun t => D (B t))) (hc : ∀ i, i < g.length → pAt cs i = compP (pAt ps (Y i)) (pAt qs i)) : renG (renG g xs ps) ys qs = renG g bs cs := by
  have hl := renG_len g xs ps
  refine Glu.ext_fAt (by simp) fun i f hi hf => ?_
  rw [renG_len, renG_len] at hi
  have hYi := hY.lt i hi
  have hp := pAt_ok hps hpl hYi
  have hq := pAt_ok hqs hql hi
  have hq4 := p4_range hq (f := f)
  have hp4 := p4_range hp (f := ((pAt qs i).at f).toNat)
  have hY' : OrdF ys (renG g xs ps).length Y D := by rw [hl]; exact hY
  have eat : ((pAt cs i).at f).toNat = ((pAt ps (Y i)).at ((pAt qs i).at f).toNat).toNat := by rw [hc i hi, comp_at _ _ hf]
  by_cases h0 : (fAt g (X (Y i)) ((pAt ps (Y i)).at ((pAt qs i).at f).toNat).toNat).tet < 0
  · have e1 := ren_free (ps := ps) hX hYi hq4 h0
    rw [ren_free (ps := qs) hY' (by rw [hl]; exact hi) hf (by rw [e1]; decide), ren_free (ps := cs) hb hi hf (by rw [eat]; exact h0)]
  · have hF := okG_glued hg (hX.lt _ hYi) hp4 (by omega)
    have hw := okG_hi hg (hX.lt _ hYi) hp4 hF.lo
    have hbw := hX.blt _ hw
    have e1 := ren_glue (ps := ps) hX hYi hq4 hF.lo hw
    have e2 := ren_glue (ps := qs) (g := renG g xs ps) hY' (by rw [hl]; exact hi) hf (by rw [e1]; exact Int.natCast_nonneg _) (by rw [e1, hl]; simpa using hbw)
    rw [e1] at e2
    have e3 := ren_glue (ps := cs) hb hi hf (by rw [eat]; exact hF.lo) (by rw [eat]; exact hw)
    rw [eat] at e3
    rw [e2, e3]
    show Fc.mk ((D (((B (fAt g (X (Y i)) ((pAt ps (Y i)).at ((pAt qs i).at f).toNat).toNat).tet.toNat : Nat) : Int)).toNat : Nat) : Int) (compP (invP (pAt qs (D (((B (fAt g (X (Y i)) ((pAt ps (Y i)).at ((pAt qs i).at f).toNat).toNat).tet.toNat : Nat) : Int)).toNat))) _) = _
    rw [Int.toNat_natCast]
    have hd := hY.blt _ hbw
    have hcd := hc _ hd
    rw [hY.xb _ hbw] at hcd
    have hp2 := pAt_ok hps hpl hbw
    have hq2 := pAt_ok hqs hql hd
    rw [hcd, hc i hi, inv_comp_rev hp2 hq2]
    rw [comp_assoc (comp_ok hF.ok (comp_ok hp hq)), comp_assoc hq, comp_assoc hq]
theorem ren_id (hg : okG g = true) (hb : OrdF bs g.length (fun i => i) (fun t => t)) (hc : ∀ i, i < g.length → pAt cs i = idP) : renG g bs cs = g := by
  refine Glu.ext_fAt (by simp) fun i f hi hf => ?_
  rw [renG_len] at hi
  have hid : (idP.at f).toNat = f := by
    match f, hf with
    | 0, _ => rfl
    | 1, _ => rfl
    | 2, _ => rfl
    | 3, _ => rfl
  have eat : ((pAt cs i).at f).toNat = f := by rw [hc i hi, hid]
  by_cases h0 : (fAt g i f).tet < 0
  · rw [ren_free (ps := cs) hb hi hf (by rw [eat]; exact h0), okG_free hg hi hf h0]
  · have hF := okG_glued hg hi hf (by omega)
    have hw := okG_hi hg hi hf hF.lo
    have e := ren_glue (ps := cs) hb hi hf (by rw [eat]; exact hF.lo) (by rw [eat]; exact hw)
    rw [eat, hc i hi, hc _ hw] at e
    rw [e, comp_id hF.ok, show invP idP = idP from rfl, id_comp hF.ok]
    have := hF.lo
    rw [show (((fAt g i f).tet.toNat : Nat) : Int) = (fAt g i f).tet by omega]
theorem ren_back (hg : okG g = true) (hX : OrdF xs g.length X B) (hps : ps.all okP = true) (hpl : ps.length = g.length) (hY : OrdF ys g.length B X) (hqs : qs.all okP = true) (hql : qs.length = g.length) (hq : ∀ i, i < g.length → pAt qs i = invP (pAt ps (B i))) : renG (renG g xs ps) ys qs = g := by
  have h1 : ∀ i, i < g.length → ((List.range g.length).map Int.ofNat).getD i 0 = (i : Int) := fun i hi => by simp [List.getD_eq_getElem?_getD, hi]
  obtain ⟨_, hI⟩ := OrdF.of (xs := (List.range g.length).map Int.ofNat) (n := g.length) (Z := fun i => X (B i)) (E := fun t => X (B t)) (fun i hi => by rw [h1 i hi]; show (i : Int) = (X (B i) : Int); rw [hX.xb i hi]) (fun i hi => by show X (B i) < _; rw [hX.xb i hi]; exact hi) (fun t ht => by show X (B t) < _ ∧ X (B (X (B t))) = t; rw [hX.xb t ht, hX.xb t ht]; exact ⟨ht, rfl⟩) (fun i hi => by show X (B (X (B i))) = i; rw [hX.xb i hi, hX.xb i hi])
  have hI2 : OrdF ((List.range g.length).map Int.ofNat) g.length (fun i => i) (fun t => t) := (OrdF.of (Z := fun i => i) (E := fun t => t) h1 (fun i hi => hi) (fun t ht => ⟨ht, rfl⟩) (fun i hi => rfl)).2
  have hr : ∀ i, i < g.length → pAt (List.replicate g.length idP) i = idP := fun i hi => pAt_of (by simp [hi])
  rw [ren_ren (bs := (List.range g.length).map Int.ofNat) (cs := List.replicate g.length idP) hg hX hps hpl hY hqs hql hI (fun i hi => by
    rw [hr i hi, hq i hi, comp_inv (pAt_ok hps hpl (hX.blt i hi))])]
  exact ren_id hg hI2 hr
end two
end Go.V
/- The lists that the statement on renumbering makes. -/
namespace Go.V
open Go
def bothTo (xs ys : List Int) (n i : Nat) : List Int := (List.range n).map fun j => if j < i then xs.getD (ys.getD j 0).toNat 0 else 0
def byTo (ps qs : List P4) (ys : List Int) (n i : Nat) : List P4 := (List.range n).map fun j => if j < i then compP (pAt ps (ys.getD j 0).toNat) (pAt qs j) else zP
def unTo (xs : List Int) (ps : List P4) (n : Nat) : Nat → List P4
  | 0 => List.replicate n zP
  | i + 1 => (unTo xs ps n i).set (xs.getD i 0).toNat (invP (pAt ps i))
theorem bothTo_zero (xs ys : List Int) (n : Nat) : bothTo xs ys n 0 = List.replicate n 0 := by
  apply List.ext_getElem?; intro k
  by_cases h : k < n <;> simp [bothTo, h]
theorem byTo_zero (ps qs : List P4) (ys : List Int) (n : Nat) : byTo ps qs ys n 0 = List.replicate n zP := by
  apply List.ext_getElem?; intro k
  by_cases h : k < n <;> simp [byTo, h]
@[simp] theorem bothTo_len (xs ys : List Int) (n i : Nat) : (bothTo xs ys n i).length = n := by simp [bothTo]
@[simp] theorem byTo_len (ps qs : List P4) (ys : List Int) (n i : Nat) : (byTo ps qs ys n i).length = n := by simp [byTo]
@[simp] theorem unTo_len (xs : List Int) (ps : List P4) (n : Nat) : ∀ i, (unTo xs ps n i).length = n
  | 0 => by simp [unTo]
  | i + 1 => by simp [unTo, unTo_len xs ps n i]
theorem map_set_step {α : Type} {n i : Nat} (hi : i < n) (f : Nat → α) (z : α) : ((List.range n).map fun j => if j < i then f j else z).set i (f i) = (List.range n).map fun j => if j < i + 1 then f j else z := by
  apply List.ext_getElem?; intro k
  rw [List.getElem?_set]
  by_cases e : i = k
  · subst e; simp [hi]
  · rw [if_neg e]
    by_cases h : k < n
    · by_cases h2 : k < i
      · simp [h, h2, show k < i + 1 by omega]
      · simp [h, h2, show ¬ k < i + 1 by omega]
    · simp [h]
theorem bothTo_set {xs ys : List Int} {n i : Nat} (hi : i < n) : (bothTo xs ys n i).set i (xs.getD (ys.getD i 0).toNat 0) = bothTo xs ys n (i + 1) := map_set_step hi _ _
theorem byTo_set {ps qs : List P4} {ys : List Int} {n i : Nat} (hi : i < n) : (byTo ps qs ys n i).set i (compP (pAt ps (ys.getD i 0).toNat) (pAt qs i)) = byTo ps qs ys n (i + 1) := map_set_step hi _ _
section fin
variable {xs ys : List Int} {ps qs : List P4} {n : Nat} {X B Y D : Nat → Nat}
theorem both_F (hX : OrdF xs n X B) (hY : OrdF ys n Y D) : ordTo (bothTo xs ys n n) n n = true ∧ OrdF (bothTo xs ys n n) n (fun i => X (Y i)) (fun t => D (B t)) :=
  OrdF.of (fun i hi => by
    have : (bothTo xs ys n n).getD i 0 = xs.getD (ys.getD i 0).toNat 0 := by simp [bothTo, List.getD_eq_getElem?_getD, hi]
    rw [this, hY.val i hi, Int.toNat_natCast, hX.val _ (hY.lt i hi)]) (fun i hi => hX.lt _ (hY.lt i hi)) (fun t ht => ⟨hY.blt _ (hX.blt t ht), by show X (Y (D (B t))) = t; rw [hY.xb _ (hX.blt t ht), hX.xb t ht]⟩) (fun i hi => by show D (B (X (Y i))) = i; rw [hX.bx _ (hY.lt i hi), hY.bx i hi])
theorem by_at (hY : OrdF ys n Y D) {i : Nat} (hi : i < n) : pAt (byTo ps qs ys n n) i = compP (pAt ps (Y i)) (pAt qs i) := by
  rw [pAt_of (p := compP (pAt ps (ys.getD i 0).toNat) (pAt qs i)) (by simp [byTo, hi]), hY.val i hi, Int.toNat_natCast]
theorem all_of {l : List P4} (h : ∀ i, i < l.length → okP (pAt l i) = true) : l.all okP = true := List.all_eq_true.2 fun p hp => by
  obtain ⟨i, hi⟩ := List.getElem?_of_mem hp
  have := h i (List.getElem?_eq_some_iff.1 hi).1
  rwa [pAt_of hi] at this
theorem by_ok (hY : OrdF ys n Y D) (hps : ps.all okP = true) (hpl : ps.length = n) (hqs : qs.all okP = true) (hql : qs.length = n) : (byTo ps qs ys n n).all okP = true := all_of fun i hi => by
  rw [byTo_len] at hi
  rw [by_at hY hi]
  exact comp_ok (okP_all hps (pAt_get (by have := hY.lt i hi; omega))) (okP_all hqs (pAt_get (by omega)))
theorem back_F (hX : OrdF xs n X B) : ordTo (bkTo xs n n) n n = true ∧ OrdF (bkTo xs n n) n B X :=
  OrdF.of (fun t ht => by have := hX.bk t ht; rwa [bkI, Int.toNat_natCast] at this) (fun t ht => hX.blt t ht) (fun i hi => ⟨hX.lt i hi, hX.bx i hi⟩) (fun t ht => hX.xb t ht)
theorem un_at (hX : OrdF xs n X B) : ∀ i, i ≤ n → ∀ j, j < i → pAt (unTo xs ps n i) (X j) = invP (pAt ps j)
  | 0, _, j, hj => absurd hj (Nat.not_lt_zero _)
  | i + 1, hi, j, hj => by
    have hv : (xs.getD i 0).toNat = X i := by rw [hX.val i (by omega)]; simp
    rw [unTo, hv]
    by_cases e : j = i
    · subst e; exact pAt_set_self (by rw [unTo_len]; exact hX.lt j (by omega))
    · rw [pAt_set_ne (fun e2 => e (by rw [← hX.bx j (by omega), ← e2, hX.bx i (by omega)]))]
      exact un_at hX i (by omega) j (by omega)
theorem un_get (hX : OrdF xs n X B) {t : Nat} (ht : t < n) : pAt (unTo xs ps n n) t = invP (pAt ps (B t)) := by
  have := un_at (ps := ps) hX n (Nat.le_refl _) (B t) (hX.blt t ht)
  rwa [hX.xb t ht] at this
theorem un_ok (hX : OrdF xs n X B) (hps : ps.all okP = true) (hpl : ps.length = n) : (unTo xs ps n n).all okP = true := all_of fun i hi => by
  rw [unTo_len] at hi
  rw [un_get hX hi]
  exact invP_ok (okP_all hps (pAt_get (by have := hX.blt i hi; omega)))
end fin
/-- All that the statement asks. -/
theorem ren_all {g : Glu} {xs ys : List Int} {ps qs : List P4} (hg : okG g = true) (hx : ordG xs ps g.length = true) (hy : ordG ys qs g.length = true) :
    okG (renG g xs ps) = true ∧ ordG (bothTo xs ys g.length g.length) (byTo ps qs ys g.length g.length) g.length = true ∧ ordG (bkTo xs g.length g.length) (unTo xs ps g.length g.length) g.length = true ∧
    renG (renG g xs ps) ys qs = renG g (bothTo xs ys g.length g.length) (byTo ps qs ys g.length g.length) ∧ renG (renG g xs ps) (bkTo xs g.length g.length) (unTo xs ps g.length g.length) = g ∧
    (oriG (renG g xs ps)).isSome = (oriG g).isSome ∧ partsN (renG g xs ps) = partsN g ∧ (rnT nthP (renG g xs ps) g (partsOf (renG g xs ps)) (partsOf g) (renG g xs ps).length).isSome = true := by
  obtain ⟨hxl, hpl, hxo, hps⟩ := ordG_iff.1 hx
  obtain ⟨hyl, hql, hyo, hqs⟩ := ordG_iff.1 hy
  have hX := ord_F hxo
  have hY := ord_F hyo
  have hr := ren_okG hg hX hps hpl
  have hb := both_F hX hY
  have hk := back_F hX
  obtain ⟨σ, ρ, hPB⟩ := ren_PB hg hX hps hpl
  refine ⟨hr, ordG_iff.2 ⟨by simp, by simp, hb.1, by_ok hY hps hpl hqs hql⟩, ordG_iff.2 ⟨by simp, by simp, hk.1, un_ok hX hps hpl⟩, ren_ren hg hX hps hpl hY hqs hql hb.2 (fun i hi => by_at hY hi), ren_back hg hX hps hpl hk.2 (un_ok hX hps hpl) (by simp) (fun i hi => un_get hX hi), ren_ori hg hX hps hpl, hPB.eq hr hg, ?_⟩
  obtain ⟨used, _, _, he, _⟩ := rnT_go nth_all hr hg (by rw [renG_len]; exact Nat.le_refl _) hPB (renG g xs ps).length (Nat.le_refl _)
  rw [he]; rfl
end Go.V
/- The statement GlueRenumbers: the walk. -/
namespace Go.Proofs
open Go Go.V
set_option maxRecDepth 20000
theorem gl_RenumberL (base : Option Addr) (A : Addr) (cap : Nat) (g : Glu) (xb : Option Addr) (XA : Addr) (xc : Nat) (xs : List Int) (pb : Option Addr) (PA : Addr) (pc : Nat) (ps : List P4) (n : Nat) (w : World) (hg : GluAt w base A g) (hx : LisAt w xb XA xs) (hp : PermsAt w pb PA ps) (hok : okG g = true) (hyes : ordG xs ps g.length = true) (h1 : xs.length = n) (h2 : ps.length = n) :
    Gives Tryz.prog 19 #[gluV base cap g, .slice xb n xc, .slice pb n pc] w Nil (fun q : Option Addr × Nat => OKB q (renG g xs ps).length) (fun q => .tuple #[gluV q.1 q.2 (renG g xs ps), iv 0]) (fun q => [ownG q (renG g xs ps)]) := by
  have h := gl_Renumber base A cap g xb XA xc xs pb PA pc ps w hg hx hp hok hyes
  rw [← h1]
  have e : (.slice pb xs.length pc : Value) = prmV pb pc ps := by rw [h1, ← h2]
  rw [e]; exact h

theorem lw_GlueRenumbers (gb : Option Addr) (GA : Addr) (gc : Nat) (g : Glu) (xb : Option Addr) (XA : Addr) (xc : Nat) (xs : List Int) (yb : Option Addr) (YA : Addr) (yc : Nat) (ys : List Int) (pb : Option Addr) (PA : Addr) (pc : Nat) (ps : List P4) (qb : Option Addr) (QA : Addr) (qc : Nat) (qs : List P4) (w : World) (he : Env w) (hg : GluAt w gb GA g) (hx : LisAt w xb XA xs) (hy : LisAt w yb YA ys) (hp : PermsAt w pb PA ps) (hq : PermsAt w qb QA qs) : Gives Tryz.prog 7 #[gluV gb gc g, lisV xb xc xs, lisV yb yc ys, prmV pb pc ps, prmV qb qc qs] w Nil (fun _ : Unit => True) (fun _ => .bool true) (fun _ => []) := by
  refine fn_of_run (S := Nil) (args := [gluV gb gc g, lisV xb xc xs, lisV yb yc ys, prmV pb pc ps, prmV qb qc qs]) (n := 225) (L := []) Tryz.func7 rfl Tryz.ntmps7 (Nat.le_of_ble_eq_true rfl) (Sym.nil _ _) ?_
  change RunC _ _ _ [(0, _), (1, _), (2, _), (3, _), (4, _)] _
  refine RunC.seq ?_
  refine RunC.region ?_
  refine RunL.grows rfl rfl rfl (Grows.box rfl rfl) (fun b5 _ => ?_)
  refine RunL.still rfl rfl rfl (Still.assign rfl rfl) ?_
  refine RunL.nil ?_
  refine Ends.then ?_
  refine RunC.seq ?_
  refine RunC.seq ?_
  refine RunC.region ?_
  refine RunL.grows rfl rfl rfl (Grows.call (vs := #[]) rfl rfl Tryz.call9 (fun w hs => lw_sane w (he.sym hs))) (fun _ _ => ?_)
  refine RunL.still rfl rfl rfl (Still.not rfl rfl) ?_
  refine RunL.again (t := 32) (u := .bool false) rfl (rfl) ?_
  refine RunL.nil ?_
  refine Ends.then ?_
  refine RunC.cond_false rfl ?_
  refine RunC.skip ?_
  refine Ends.then ?_
  refine RunC.seq ?_
  refine RunC.region ?_
  refine RunL.still rfl rfl rfl (Still.fieldAddrL (off := 0) (off' := 0) rfl rfl Tryz.underlying24 rfl Tryz.sizeOf22 rfl) ?_
  refine RunL.still rfl rfl rfl (Still.load rfl rfl Tryz.isAgg22 (fun _ hs => cell_nth (hs.at (i := 0) rfl) rfl)) ?_
  refine RunL.still rfl rfl rfl (Still.lenSlice rfl rfl Tryz.underlying22) ?_
  refine RunL.still rfl rfl rfl (Still.assign rfl rfl) ?_
  refine RunL.nil ?_
  refine Ends.then ?_
  refine RunC.seq ?_
  refine RunC.seq ?_
  refine RunC.region ?_
  refine RunL.still rfl rfl rfl (Still.loads rfl rfl Tryz.isAgg24 Tryz.sizeOf24 (vs := [_]) rfl (fun _ hs => cells_nth (hs.at (i := 0) rfl) ⟨rfl, trivial⟩)) ?_
  refine RunL.grows rfl rfl rfl (Grows.slice1 rfl rfl Tryz.underlying63 Tryz.sizeOf24 rfl Tryz.zeroValue24 (by decide)) (fun b37 _ => ?_)
  refine RunL.grows rfl rfl rfl (Grows.call (vs := #[_]) rfl rfl Tryz.call10 (fun w hs => lw_small1 b37 gb gc g.length w (cells_nth (hs.at (i := 0) rfl) ⟨rfl, trivial⟩))) (fun _ _ => ?_)
  refine RunL.still rfl rfl rfl (Still.not rfl rfl) ?_
  refine RunL.still rfl rfl rfl (Still.move rfl rfl) ?_
  refine RunL.split (t := 40) rfl (fun h40 => ?_) (fun h40 => ?_)
  · skip
    refine RunL.off rfl rfl rfl ?_
    refine RunL.off rfl rfl rfl ?_
    refine RunL.off rfl rfl rfl ?_
    refine RunL.still rfl rfl rfl (Still.pickT rfl rfl rfl) ?_
    refine RunL.still rfl rfl rfl (Still.move rfl rfl) ?_
    refine RunL.off rfl rfl rfl ?_
    refine RunL.off rfl rfl rfl ?_
    refine RunL.off rfl rfl rfl ?_
    refine RunL.off rfl rfl rfl ?_
    refine RunL.off rfl rfl rfl ?_
    refine RunL.still rfl rfl rfl (Still.pickT rfl rfl rfl) ?_
    refine RunL.still rfl rfl rfl (Still.move rfl rfl) ?_
    refine RunL.off rfl rfl rfl ?_
    refine RunL.off rfl rfl rfl ?_
    refine RunL.off rfl rfl rfl ?_
    refine RunL.off rfl rfl rfl ?_
    refine RunL.off rfl rfl rfl ?_
    refine RunL.still rfl rfl rfl (Still.pickT rfl rfl rfl) ?_
    refine RunL.nil ?_
    refine Ends.then ?_
    refine RunC.cond_true rfl ?_
    refine RunC.seq ?_
    refine RunC.region ?_
    refine RunL.still rfl rfl rfl (Still.assign rfl rfl) ?_
    refine RunL.nil ?_
    refine Ends.then ?_
    refine RunC.ret ?_
    refine Ends.then_ret ?_
    refine Ends.leave (.inl rfl) (fun _ _ ok => results1 Tryz.results7 (Holds.tmp rfl) ok) (fun w1 hs => ?_)
    exact Ret.intro () trivial rfl (HSub.nil _) hs
  · have hgl : g.length ≤ 12 := by simpa using h40
    refine RunL.still rfl rfl rfl (Still.loads rfl rfl Tryz.isAgg24 Tryz.sizeOf24 (vs := [_]) rfl (fun _ hs => cells_nth (hs.at (i := 1) rfl) ⟨rfl, trivial⟩)) ?_
    refine RunL.grows rfl rfl rfl (Grows.call (vs := #[_]) rfl rfl Tryz.call11 (fun w hs => rf_Check gb GA gc g w (hg.sym hs))) (fun _ _ => ?_)
    refine RunL.still rfl rfl rfl (Still.neq rfl rfl rfl) ?_
    refine RunL.still rfl rfl rfl (Still.pickF rfl rfl rfl) ?_
    refine RunL.still rfl rfl rfl (Still.move rfl rfl) ?_
    refine RunL.split (t := 45) rfl (fun h45 => ?_) (fun h45 => ?_)
    · skip
      refine RunL.off rfl rfl rfl ?_
      refine RunL.off rfl rfl rfl ?_
      refine RunL.off rfl rfl rfl ?_
      refine RunL.off rfl rfl rfl ?_
      refine RunL.off rfl rfl rfl ?_
      refine RunL.still rfl rfl rfl (Still.pickT rfl rfl rfl) ?_
      refine RunL.still rfl rfl rfl (Still.move rfl rfl) ?_
      refine RunL.off rfl rfl rfl ?_
      refine RunL.off rfl rfl rfl ?_
      refine RunL.off rfl rfl rfl ?_
      refine RunL.off rfl rfl rfl ?_
      refine RunL.off rfl rfl rfl ?_
      refine RunL.still rfl rfl rfl (Still.pickT rfl rfl rfl) ?_
      refine RunL.nil ?_
      refine Ends.then ?_
      refine RunC.cond_true rfl ?_
      refine RunC.seq ?_
      refine RunC.region ?_
      refine RunL.still rfl rfl rfl (Still.assign rfl rfl) ?_
      refine RunL.nil ?_
      refine Ends.then ?_
      refine RunC.ret ?_
      refine Ends.then_ret ?_
      refine Ends.leave (.inl rfl) (fun _ _ ok => results1 Tryz.results7 (Holds.tmp rfl) ok) (fun w2 hs => ?_)
      exact Ret.intro () trivial rfl (HSub.nil _) hs
    · have hok : okG g = true := by by_cases k : okG g = true; exact k; exact absurd (chkG_bad (by simpa using k)) (by have h45 := of_decide_eq_false h45; rw [Decidable.not_not.1 h45]; decide)
      refine RunL.still rfl rfl rfl (Still.move rfl rfl) ?_
      refine RunL.still rfl rfl rfl (Still.move rfl rfl) ?_
      refine RunL.still rfl rfl rfl (Still.move rfl rfl) ?_
      refine RunL.grows rfl rfl rfl (Grows.call (vs := #[_, _, _]) rfl rfl Tryz.call36 (fun w hs => rf_IsOrder xb XA xc xs pb PA pc ps g.length w (hx.sym hs) (hp.sym hs) (by omega))) (fun _ _ => ?_)
      refine RunL.still rfl rfl rfl (Still.not rfl rfl) ?_
      refine RunL.still rfl rfl rfl (Still.pickF rfl rfl rfl) ?_
      refine RunL.still rfl rfl rfl (Still.move rfl rfl) ?_
      refine RunL.split (t := 52) rfl (fun h52 => ?_) (fun h52 => ?_)
      · skip
        refine RunL.off rfl rfl rfl ?_
        refine RunL.off rfl rfl rfl ?_
        refine RunL.off rfl rfl rfl ?_
        refine RunL.off rfl rfl rfl ?_
        refine RunL.off rfl rfl rfl ?_
        refine RunL.still rfl rfl rfl (Still.pickT rfl rfl rfl) ?_
        refine RunL.nil ?_
        refine Ends.then ?_
        refine RunC.cond_true rfl ?_
        refine RunC.seq ?_
        refine RunC.region ?_
        refine RunL.still rfl rfl rfl (Still.assign rfl rfl) ?_
        refine RunL.nil ?_
        refine Ends.then ?_
        refine RunC.ret ?_
        refine Ends.then_ret ?_
        refine Ends.leave (.inl rfl) (fun _ _ ok => results1 Tryz.results7 (Holds.tmp rfl) ok) (fun w3 hs => ?_)
        exact Ret.intro () trivial rfl (HSub.nil _) hs
      · have h1o : ordG xs ps g.length = true := by simpa using h52
        refine RunL.still rfl rfl rfl (Still.move rfl rfl) ?_
        refine RunL.still rfl rfl rfl (Still.move rfl rfl) ?_
        refine RunL.still rfl rfl rfl (Still.move rfl rfl) ?_
        refine RunL.grows rfl rfl rfl (Grows.call (vs := #[_, _, _]) rfl rfl Tryz.call36 (fun w hs => rf_IsOrder yb YA yc ys qb QA qc qs g.length w (hy.sym hs) (hq.sym hs) (by omega))) (fun _ _ => ?_)
        refine RunL.still rfl rfl rfl (Still.not rfl rfl) ?_
        refine RunL.still rfl rfl rfl (Still.pickF rfl rfl rfl) ?_
        refine RunL.nil ?_
        refine Ends.then ?_
        refine RunC.cond rfl (fun h58 => ?_) (fun h58 => ?_)
        · skip
          refine RunC.seq ?_
          refine RunC.region ?_
          refine RunL.still rfl rfl rfl (Still.assign rfl rfl) ?_
          refine RunL.nil ?_
          refine Ends.then ?_
          refine RunC.ret ?_
          refine Ends.then_ret ?_
          refine Ends.leave (.inl rfl) (fun _ _ ok => results1 Tryz.results7 (Holds.tmp rfl) ok) (fun w4 hs => ?_)
          exact Ret.intro () trivial rfl (HSub.nil _) hs
        · have h2o : ordG ys qs g.length = true := by simpa using h58
          obtain ⟨hokA, hbo, hbk, hcomp, hundo, hori, hpn, hrn⟩ := ren_all hok h1o h2o
          obtain ⟨hxl, hpl, hxo, hps⟩ := ordG_iff.1 h1o
          obtain ⟨hyl, hql, hyo, hqs⟩ := ordG_iff.1 h2o
          refine RunC.skip ?_
          refine Ends.then ?_
          refine RunC.seq ?_
          refine RunC.region ?_
          refine RunL.still rfl rfl rfl (Still.loads rfl rfl Tryz.isAgg24 Tryz.sizeOf24 (vs := [_]) rfl (fun _ hs => cells_nth (hs.at (i := 1) rfl) ⟨rfl, trivial⟩)) ?_
          refine RunL.still rfl rfl rfl (Still.move rfl rfl) ?_
          refine RunL.still rfl rfl rfl (Still.move rfl rfl) ?_
          refine RunL.grows rfl rfl rfl (Grows.call (vs := #[_, _, _]) rfl rfl Tryz.call19 (fun w hs => gl_Renumber gb GA gc g xb XA xc xs pb PA pc ps w (hg.sym hs) (hx.sym hs) (hp.sym hs) hok h1o)) (fun q1 hq1 => ?_)
          refine RunL.still rfl rfl rfl (Still.move rfl rfl) ?_
          refine RunL.still rfl rfl rfl (Still.extractN rfl rfl rfl) ?_
          refine RunL.still rfl rfl rfl (Still.extractN rfl rfl rfl) ?_
          refine RunL.grows rfl rfl rfl (Grows.alloc rfl Tryz.zeroValue24) (fun b12 _ => ?_)
          refine RunL.does0 rfl rfl (Does.store rfl rfl rfl (i := 0) rfl Tryz.sizeOf24 rfl (rfl) rfl) (fun _ _ => ?_)
          refine RunL.conv (fun _ hs => hs.re 0 rfl (show _ = HL.obj b12 (.cells #[.slice q1.1 (renG g xs ps).length q1.2] 24 (0, 0)) from rfl)) ?_
          refine RunL.still rfl rfl rfl (Still.assign rfl rfl) ?_
          refine RunL.nil ?_
          refine Ends.then ?_
          refine RunC.seq ?_
          refine RunC.region ?_
          refine RunL.still rfl rfl rfl (Still.loads rfl rfl Tryz.isAgg24 Tryz.sizeOf24 (vs := [_]) rfl (fun _ hs => cells_nth (hs.at (i := 0) rfl) ⟨rfl, trivial⟩)) ?_
          refine RunL.still rfl rfl rfl (Still.move rfl rfl) ?_
          refine RunL.still rfl rfl rfl (Still.move rfl rfl) ?_
          refine RunL.grows rfl rfl rfl (Grows.call (vs := #[_, _, _]) rfl rfl Tryz.call19 (fun w hs => gl_Renumber q1.1 _ q1.2 (renG g xs ps) yb YA yc ys qb QA qc qs w (GluAt.of_ownG (q := q1) (g := (renG g xs ps)) (by simp only [renG_len]; omega) (hs.at (i := 1) rfl)) (hy.sym hs) (hq.sym hs) hokA (by rw [renG_len]; exact h2o))) (fun q2 hq2 => ?_)
          refine RunL.still rfl rfl rfl (Still.move rfl rfl) ?_
          refine RunL.still rfl rfl rfl (Still.extractN rfl rfl rfl) ?_
          refine RunL.still rfl rfl rfl (Still.extractN rfl rfl rfl) ?_
          refine RunL.grows rfl rfl rfl (Grows.alloc rfl Tryz.zeroValue24) (fun b14 _ => ?_)
          refine RunL.does0 rfl rfl (Does.store rfl rfl rfl (i := 0) rfl Tryz.sizeOf24 rfl (rfl) rfl) (fun _ _ => ?_)
          refine RunL.conv (fun _ hs => hs.re 0 rfl (show _ = HL.obj b14 (.cells #[.slice q2.1 (renG (renG g xs ps) ys qs).length q2.2] 24 (0, 0)) from rfl)) ?_
          refine RunL.still rfl rfl rfl (Still.assign rfl rfl) ?_
          refine RunL.nil ?_
          refine Ends.then ?_
          refine RunC.seq ?_
          refine RunC.seq ?_
          refine RunC.region ?_
          refine RunL.still rfl rfl rfl (Still.move rfl rfl) ?_
          refine RunL.conv (fun _ hs => hs.sub (HSub.pick 2 rfl (HSub.pick 0 rfl (HSub.pick 3 rfl (HSub.pick 1 rfl (HSub.pick 0 rfl (HSub.nil _))))))) ?_
          refine RunL.still rfl rfl rfl (Still.neq rfl rfl rfl) ?_
          refine RunL.again (t := 74) (u := .bool false) rfl (rfl) ?_
          refine RunL.still rfl rfl rfl (Still.move rfl rfl) ?_
          refine RunL.still rfl rfl rfl (Still.move rfl rfl) ?_
          refine RunL.still rfl rfl rfl (Still.neq rfl rfl rfl) ?_
          refine RunL.again (t := 77) (u := .bool false) rfl (rfl) ?_
          refine RunL.still rfl rfl rfl (Still.pickF rfl rfl rfl) ?_
          refine RunL.still rfl rfl rfl (Still.move rfl rfl) ?_
          refine RunL.still rfl rfl rfl (Still.loads rfl rfl Tryz.isAgg24 Tryz.sizeOf24 (vs := [_]) rfl (fun _ hs => cells_nth (hs.at (i := 0) rfl) ⟨rfl, trivial⟩)) ?_
          refine RunL.grows rfl rfl rfl (Grows.call (vs := #[_]) rfl rfl Tryz.call14 (fun w hs => gl_Check q1.1 _ q1.2 (renG g xs ps) w (GluAt.of_ownG (q := q1) (g := (renG g xs ps)) (by simp only [renG_len]; omega) (hs.at (i := 3) rfl)))) (fun _ _ => ?_)
          refine RunL.still rfl rfl rfl (Still.neq rfl rfl rfl) ?_
          refine RunL.again (t := 82) (u := .bool false) rfl (congrArg Value.bool (by rw [chkG_ok hokA]; rfl)) ?_
          refine RunL.still rfl rfl rfl (Still.pickF rfl rfl rfl) ?_
          refine RunL.nil ?_
          refine Ends.then ?_
          refine RunC.cond_false rfl ?_
          refine RunC.skip ?_
          refine Ends.then ?_
          refine RunC.seq ?_
          refine RunC.region ?_
          refine RunL.still rfl rfl rfl (Still.move rfl rfl) ?_
          refine RunL.grows rfl rfl rfl (Grows.make (n := g.length) (xs := (ints (List.replicate g.length 0))) rfl rfl rfl Tryz.underlying36 (by kernel_rfl : (_ : Option _) = some (some (.int .i64 0), 1, 8)) rfl (by omega) (by omega) (zeros_one _ _ |>.trans (ints_replicate _ _))) (fun b85 _ => ?_)
          refine RunL.still rfl rfl rfl (Still.assign rfl rfl) ?_
          refine RunL.nil ?_
          refine Ends.then ?_
          refine RunC.seq ?_
          refine RunC.region ?_
          refine RunL.still rfl rfl rfl (Still.move rfl rfl) ?_
          refine RunL.grows rfl rfl rfl (Grows.make (n := g.length) (xs := ((List.replicate g.length zP).flatMap encP)) rfl rfl rfl Tryz.underlying43 (by kernel_rfl : (_ : Option _) = some (some (.agg #[.int .i64 0, .int .i64 0, .int .i64 0, .int .i64 0]), 4, 32)) rfl (by omega) (by omega) (by exact zP_cells _)) (fun b87 _ => ?_)
          refine RunL.still rfl rfl rfl (Still.assign rfl rfl) ?_
          refine RunL.nil ?_
          refine Ends.then ?_
          refine RunC.seq ?_
          refine RunC.region ?_
          refine RunL.still rfl rfl rfl (Still.move rfl rfl) ?_
          refine RunL.grows rfl rfl rfl (Grows.make (n := g.length) (xs := (ints (List.replicate g.length 0))) rfl rfl rfl Tryz.underlying36 (by kernel_rfl : (_ : Option _) = some (some (.int .i64 0), 1, 8)) rfl (by omega) (by omega) (zeros_one _ _ |>.trans (ints_replicate _ _))) (fun b89 _ => ?_)
          refine RunL.still rfl rfl rfl (Still.assign rfl rfl) ?_
          refine RunL.nil ?_
          refine Ends.then ?_
          refine RunC.seq ?_
          refine RunC.region ?_
          refine RunL.still rfl rfl rfl (Still.move rfl rfl) ?_
          refine RunL.grows rfl rfl rfl (Grows.make (n := g.length) (xs := ((List.replicate g.length zP).flatMap encP)) rfl rfl rfl Tryz.underlying43 (by kernel_rfl : (_ : Option _) = some (some (.agg #[.int .i64 0, .int .i64 0, .int .i64 0, .int .i64 0]), 4, 32)) rfl (by omega) (by omega) (by exact zP_cells _)) (fun b91 _ => ?_)
          refine RunL.still rfl rfl rfl (Still.assign rfl rfl) ?_
          refine RunL.nil ?_
          refine Ends.then ?_
          refine RunC.seq ?_
          refine RunC.seq ?_
          refine RunC.region ?_
          refine RunL.still rfl rfl rfl (Still.assign rfl rfl) ?_
          refine RunL.nil ?_
          refine Ends.then ?_
          refine RunC.block ?_
          refine RunC.loop2 (γ := Nat) (keep := [(1, _), (2, _), (3, _), (4, _), (5, _), (11, _), (12, _), (14, _), (16, _), (17, _), (18, _), (19, _)]) (hkeep := [_, _, _, _, _]) (fun i => i ≤ g.length) (fun i => g.length - i) (fun i => [(20, iv i)]) (fun i => [HL.own 3 1 (.slice (some ⟨b85, 0, none⟩) g.length g.length) g.length (ints (bothTo xs ys g.length i)), HL.own 32 4 (.slice (some ⟨b87, 0, none⟩) g.length g.length) g.length ((byTo ps qs ys g.length i).flatMap encP), HL.own 3 1 (.slice (some ⟨b89, 0, none⟩) g.length g.length) g.length (ints (bkTo xs g.length i)), HL.own 32 4 (.slice (some ⟨b91, 0, none⟩) g.length g.length) g.length ((unTo xs ps g.length i).flatMap encP)]) 0 (by omega) (Fr.Sub.cons rfl (Fr.Sub.nil _)) (Fr.Sub.cons rfl (Fr.Sub.cons rfl (Fr.Sub.cons rfl (Fr.Sub.cons rfl (Fr.Sub.cons rfl (Fr.Sub.cons rfl (Fr.Sub.cons rfl (Fr.Sub.cons rfl (Fr.Sub.cons rfl (Fr.Sub.cons rfl (Fr.Sub.cons rfl (Fr.Sub.cons rfl (Fr.Sub.nil _))))))))))))) (HSub.pick 3 (by rw [bothTo_zero]; rfl) (HSub.pick 2 (by rw [byTo_zero]; rfl) (HSub.pick 1 rfl (HSub.pick 0 rfl (HSub.pick 0 rfl (HSub.pick 0 rfl (HSub.pick 0 rfl (HSub.pick 0 rfl (HSub.pick 0 rfl (HSub.nil _)))))))))) ?_
          rintro i hi
          refine RunC.seq ?_
          refine RunC.seq ?_
          refine RunC.region ?_
          refine RunL.still rfl rfl rfl (Still.move rfl rfl) ?_
          refine RunL.still rfl rfl rfl (Still.move rfl rfl) ?_
          refine RunL.still rfl rfl rfl (Still.lss rfl rfl rfl) ?_
          refine RunL.nil ?_
          refine Ends.then ?_
          refine RunC.cond rfl (fun h94 => ?_) (fun h94 => ?_)
          · have h94 := of_decide_eq_true h94
            have hiN : i < g.length := by omega
            obtain ⟨x, hxi⟩ := get_of_lt (l := xs) (i := i) (by omega)
            obtain ⟨y, hyi⟩ := get_of_lt (l := ys) (i := i) (by omega)
            have hxb := ordTo_at hxo hiN
            have hyb := ordTo_at hyo hiN
            rw [getD_some hxi 0] at hxb
            rw [getD_some hyi 0] at hyb
            have hpy : ps[y.toNat]? = some (pAt ps y.toNat) := pAt_get (by omega)
            have hpi : ps[i]? = some (pAt ps i) := pAt_get (by omega)
            have hqi : qs[i]? = some (pAt qs i) := pAt_get (by omega)
            refine RunC.skip ?_
            refine Ends.then ?_
            refine RunC.seq ?_
            refine RunC.block ?_
            refine RunC.seq ?_
            refine RunC.region ?_
            refine RunL.still rfl rfl rfl (Still.move rfl rfl) ?_
            refine RunL.still rfl rfl rfl (Still.move rfl rfl) ?_
            refine RunL.still rfl rfl rfl (Still.move rfl rfl) ?_
            refine RunL.still rfl rfl rfl (Still.move rfl rfl) ?_
            refine RunL.still rfl rfl rfl (Still.move rfl rfl) ?_
            refine RunL.still rfl rfl rfl (Still.indexV _ rfl rfl rfl Tryz.underlying36 Tryz.sizeOf3 (hy.shape) (rfl) (by omega)) ?_
            refine RunL.still rfl rfl rfl (Still.load rfl rfl Tryz.isAgg3 (fun _ hs => cells_at (Cells.base0 (hy.cells _) hs) (ints_get hyi))) ?_
            refine RunL.still rfl rfl rfl (Still.indexV y.toNat rfl rfl rfl Tryz.underlying36 Tryz.sizeOf3 (hx.shape) (by omega) (by omega)) ?_
            refine RunL.still rfl rfl rfl (Still.load rfl rfl Tryz.isAgg3 (fun _ hs => cells_at (Cells.base0 (hx.cells _) hs) (ints_get (getD_get' (by omega))))) ?_
            refine RunL.still rfl rfl rfl (Still.indexOwn rfl rfl rfl Tryz.underlying36 Tryz.sizeOf3 (fun _ hs => hs.own (i := 0) rfl) (by omega)) ?_
            refine RunL.does0 rfl rfl (Does.storeOwn1 (xs' := (ints (bothTo xs ys g.length (i + 1)))) rfl rfl rfl rfl (i := 0) rfl Tryz.sizeOf3 rfl (by rw [length_ints, bothTo_len]; omega) ((ints_set _ _ _).trans (congrArg ints (by rw [← getD_some hyi 0]; exact bothTo_set hiN)))) (fun _ _ => ?_)
            refine RunL.nil ?_
            refine Ends.then ?_
            refine RunC.seq ?_
            refine RunC.draw 15 (.still 0 (.still 1 (.still 2 (.still 3 (.still 4 (.still 5 (.still 6 (.still 7 (.still 8 (.still 9 (.still 10 (.still 11 (.still 12 (.one 13 (.still 14 .done))))))))))))))) (by kernel_rfl) (by kernel_rfl) ?_
            refine RunG.still rfl rfl rfl rfl (Still.move rfl rfl) ?_
            refine RunG.still rfl rfl rfl rfl (Still.move rfl rfl) ?_
            refine RunG.still rfl rfl rfl rfl (Still.move rfl rfl) ?_
            refine RunG.still rfl rfl rfl rfl (Still.move rfl rfl) ?_
            refine RunG.still rfl rfl rfl rfl (Still.move rfl rfl) ?_
            refine RunG.still rfl rfl rfl rfl (Still.indexV _ rfl rfl rfl Tryz.underlying36 Tryz.sizeOf3 (hy.shape) (rfl) (by omega)) ?_
            refine RunG.still rfl rfl rfl rfl (Still.load rfl rfl Tryz.isAgg3 (fun _ hs => cells_at (Cells.base0 (hy.cells _) hs) (ints_get hyi))) ?_
            refine RunG.still rfl rfl rfl rfl (Still.indexSliceE y.toNat rfl rfl rfl Tryz.underlying43 Tryz.sizeOf32 (hp.base (by omega)) (by omega) (by omega)) ?_
            refine RunG.still rfl rfl rfl rfl (Still.loads rfl rfl Tryz.isAgg32 Tryz.sizeOf32 (vs := [iv (pAt ps y.toNat).a0, iv (pAt ps y.toNat).a1, iv (pAt ps y.toNat).a2, iv (pAt ps y.toNat).a3]) rfl (fun _ hs => (hp.sym hs).cell _ _ hpy)) ?_
            refine RunG.still rfl rfl rfl rfl (Still.move rfl rfl) ?_
            refine RunG.still rfl rfl rfl rfl (Still.move rfl rfl) ?_
            refine RunG.still rfl rfl rfl rfl (Still.indexSliceN rfl rfl rfl Tryz.underlying43 Tryz.sizeOf32 (hq.base (by omega)) (by omega)) ?_
            refine RunG.still rfl rfl rfl rfl (Still.loads rfl rfl Tryz.isAgg32 Tryz.sizeOf32 (vs := [iv (pAt qs i).a0, iv (pAt qs i).a1, iv (pAt qs i).a2, iv (pAt qs i).a3]) rfl (fun _ hs => (hq.sym hs).cell _ _ hqi)) ?_
            refine RunG.grows rfl rfl rfl rfl (Grows.call (vs := #[_, _]) rfl rfl Tryz.call37 (fun w hs => rf_Compose_ok (pAt ps y.toNat) (pAt qs i) w (okP_all hps hpy) (okP_all hqs hqi))) (fun _ _ => ?_)
            refine RunG.still rfl rfl rfl rfl (Still.indexOwn rfl rfl rfl Tryz.underlying43 Tryz.sizeOf32 (fun _ hs => hs.own (i := 1) rfl) (by omega)) ?_
            refine RunG.done ?_
            show RunL _ _ _ [_] _ _
            refine RunL.does0 rfl rfl (Does.storeOwn (xs' := ((byTo ps qs ys g.length (i + 1)).flatMap encP)) rfl rfl rfl rfl (i := 1) rfl Tryz.sizeOf32 rfl (by decide) rfl (by rw [flat_len encP_len, byTo_len]; omega) (fun j => by rw [← byTo_set hiN, getD_some hyi 0]; exact flat_set encP_len (by decide) _ (by rw [byTo_len]; exact hiN) j)) (fun _ _ => ?_)
            refine RunL.nil ?_
            refine Ends.then ?_
            refine RunC.seq ?_
            refine RunC.region ?_
            refine RunL.still rfl rfl rfl (Still.move rfl rfl) ?_
            refine RunL.still rfl rfl rfl (Still.move rfl rfl) ?_
            refine RunL.still rfl rfl rfl (Still.move rfl rfl) ?_
            refine RunL.still rfl rfl rfl (Still.indexV _ rfl rfl rfl Tryz.underlying36 Tryz.sizeOf3 (hx.shape) (rfl) (by omega)) ?_
            refine RunL.still rfl rfl rfl (Still.load rfl rfl Tryz.isAgg3 (fun _ hs => cells_at (Cells.base0 (hx.cells _) hs) (ints_get hxi))) ?_
            refine RunL.still rfl rfl rfl (Still.move rfl rfl) ?_
            refine RunL.still rfl rfl rfl (Still.indexOwnI (m := x.toNat) rfl rfl rfl Tryz.underlying36 Tryz.sizeOf3 (fun _ hs => hs.own (i := 2) rfl) (by omega) (by omega)) ?_
            refine RunL.does0 rfl rfl (Does.storeOwn1 (xs' := (ints (bkTo xs g.length (i + 1)))) rfl rfl rfl rfl (i := 2) rfl Tryz.sizeOf3 rfl (by rw [length_ints, bkTo_len]; omega) ((ints_set _ _ _).trans (congrArg ints (by rw [bkTo, getD_some hxi 0])))) (fun _ _ => ?_)
            refine RunL.nil ?_
            refine Ends.then ?_
            refine RunC.draw 11 (.still 0 (.still 1 (.still 2 (.still 3 (.still 4 (.still 5 (.still 6 (.still 7 (.still 8 (.one 9 (.still 10 .done))))))))))) (by kernel_rfl) (by kernel_rfl) ?_
            refine RunG.still rfl rfl rfl rfl (Still.move rfl rfl) ?_
            refine RunG.still rfl rfl rfl rfl (Still.move rfl rfl) ?_
            refine RunG.still rfl rfl rfl rfl (Still.move rfl rfl) ?_
            refine RunG.still rfl rfl rfl rfl (Still.indexV _ rfl rfl rfl Tryz.underlying36 Tryz.sizeOf3 (hx.shape) (rfl) (by omega)) ?_
            refine RunG.still rfl rfl rfl rfl (Still.load rfl rfl Tryz.isAgg3 (fun _ hs => cells_at (Cells.base0 (hx.cells _) hs) (ints_get hxi))) ?_
            refine RunG.still rfl rfl rfl rfl (Still.move rfl rfl) ?_
            refine RunG.still rfl rfl rfl rfl (Still.move rfl rfl) ?_
            refine RunG.still rfl rfl rfl rfl (Still.indexSliceN rfl rfl rfl Tryz.underlying43 Tryz.sizeOf32 (hp.base (by omega)) (by omega)) ?_
            refine RunG.still rfl rfl rfl rfl (Still.loads rfl rfl Tryz.isAgg32 Tryz.sizeOf32 (vs := [iv (pAt ps i).a0, iv (pAt ps i).a1, iv (pAt ps i).a2, iv (pAt ps i).a3]) rfl (fun _ hs => (hp.sym hs).cell _ _ hpi)) ?_
            refine RunG.grows rfl rfl rfl rfl (Grows.call (vs := #[_]) rfl rfl Tryz.call38 (fun w hs => rf_Inverse_ok (pAt ps i) w (okP_all hps hpi))) (fun _ _ => ?_)
            refine RunG.still rfl rfl rfl rfl (Still.indexOwnI (m := x.toNat) rfl rfl rfl Tryz.underlying43 Tryz.sizeOf32 (fun _ hs => hs.own (i := 3) rfl) (by omega) (by omega)) ?_
            refine RunG.done ?_
            show RunL _ _ _ [_] _ _
            refine RunL.does0 rfl rfl (Does.storeOwn (xs' := ((unTo xs ps g.length (i + 1)).flatMap encP)) rfl rfl rfl rfl (i := 3) rfl Tryz.sizeOf32 rfl (by decide) rfl (by rw [flat_len encP_len, unTo_len]; omega) (fun j => by rw [unTo, getD_some hxi 0]; exact flat_set encP_len (by decide) _ (by rw [unTo_len]; omega) j)) (fun _ _ => ?_)
            refine RunL.nil ?_
            refine Ends.block ?_
            refine Ends.then ?_
            refine RunC.region ?_
            refine RunL.still rfl rfl rfl (Still.move rfl rfl) ?_
            refine RunL.still rfl rfl rfl (Still.add rfl rfl rfl (fits64 (by omega) (by omega))) ?_
            refine RunL.still rfl rfl rfl (Still.assign rfl rfl) ?_
            refine RunL.nil ?_
            refine Ends.again (i + 1) ?_ ?_ (Fr.Sub.app ?_ ?_) ?_
            · show _; omega
            · show _ < _; omega
            · exact Fr.Sub.cons rfl (Fr.Sub.nil _)
            · exact Fr.Sub.cons rfl (Fr.Sub.cons rfl (Fr.Sub.cons rfl (Fr.Sub.cons rfl (Fr.Sub.cons rfl (Fr.Sub.cons rfl (Fr.Sub.cons rfl (Fr.Sub.cons rfl (Fr.Sub.cons rfl (Fr.Sub.cons rfl (Fr.Sub.cons rfl (Fr.Sub.cons rfl (Fr.Sub.nil _))))))))))))
            · exact HSub.pick 0 rfl (HSub.pick 0 rfl (HSub.pick 0 rfl (HSub.pick 0 rfl (HSub.pick 0 rfl (HSub.pick 0 rfl (HSub.pick 0 rfl (HSub.pick 0 rfl (HSub.pick 0 rfl (HSub.nil _)))))))))
          · have h94 := of_decide_eq_false h94
            obtain rfl : i = g.length := by omega
            refine RunC.exit ?_
            refine Ends.then_exit ?_
            refine Ends.then_exit ?_
            refine Ends.block_exit ?_
            refine Ends.then ?_
            refine RunC.seq ?_
            refine RunC.region ?_
            refine RunL.still rfl rfl rfl (Still.loads rfl rfl Tryz.isAgg24 Tryz.sizeOf24 (vs := [_]) rfl (fun _ hs => cells_nth (hs.at (i := 6) rfl) ⟨rfl, trivial⟩)) ?_
            refine RunL.conv (fun _ hs => hs.sub (HSub.pick 4 rfl (HSub.pick 4 rfl (HSub.pick 4 rfl (HSub.pick 4 rfl (HSub.pick 4 rfl (HSub.pick 0 rfl (HSub.pick 0 rfl (HSub.pick 0 rfl (HSub.pick 0 rfl (HSub.nil _))))))))))) ?_
            refine RunL.still rfl rfl rfl (Still.move rfl rfl) ?_
            refine RunL.still rfl rfl rfl (Still.move rfl rfl) ?_
            refine RunL.grows rfl rfl rfl (Grows.call (vs := #[_, _, _]) rfl rfl Tryz.call19 (fun w hs => gl_RenumberL gb GA gc g _ _ _ (bothTo xs ys g.length g.length) _ _ _ (byTo ps qs ys g.length g.length) g.length w (hg.sym hs) (LisAt.of_own (xs := (bothTo xs ys g.length g.length)) (by simp) (by simp; omega) (hs.at (i := 5) rfl)) (PermsAt.of_own (ps := (byTo ps qs ys g.length g.length)) (by simp) (by simp; omega) (hs.at (i := 6) rfl)) hok hbo (by simp) (by simp))) (fun q3 hq3 => ?_)
            refine RunL.still rfl rfl rfl (Still.move rfl rfl) ?_
            refine RunL.still rfl rfl rfl (Still.extractN rfl rfl rfl) ?_
            refine RunL.still rfl rfl rfl (Still.extractN rfl rfl rfl) ?_
            refine RunL.grows rfl rfl rfl (Grows.alloc rfl Tryz.zeroValue24) (fun b21 _ => ?_)
            refine RunL.does0 rfl rfl (Does.store rfl rfl rfl (i := 0) rfl Tryz.sizeOf24 rfl (rfl) rfl) (fun _ _ => ?_)
            refine RunL.conv (fun _ hs => hs.re 0 rfl (show _ = HL.obj b21 (.cells #[.slice q3.1 (renG g (bothTo xs ys g.length g.length) (byTo ps qs ys g.length g.length)).length q3.2] 24 (0, 0)) from rfl)) ?_
            refine RunL.still rfl rfl rfl (Still.assign rfl rfl) ?_
            refine RunL.nil ?_
            refine Ends.then ?_
            refine RunC.seq ?_
            refine RunC.region ?_
            refine RunL.still rfl rfl rfl (Still.loads rfl rfl Tryz.isAgg24 Tryz.sizeOf24 (vs := [_]) rfl (fun _ hs => cells_nth (hs.at (i := 2) rfl) ⟨rfl, trivial⟩)) ?_
            refine RunL.still rfl rfl rfl (Still.move rfl rfl) ?_
            refine RunL.still rfl rfl rfl (Still.move rfl rfl) ?_
            refine RunL.grows rfl rfl rfl (Grows.call (vs := #[_, _, _]) rfl rfl Tryz.call19 (fun w hs => gl_RenumberL q1.1 _ q1.2 (renG g xs ps) _ _ _ (bkTo xs g.length g.length) _ _ _ (unTo xs ps g.length g.length) g.length w (GluAt.of_ownG (q := q1) (g := (renG g xs ps)) (by simp only [renG_len]; omega) (hs.at (i := 5) rfl)) (LisAt.of_own (xs := (bkTo xs g.length g.length)) (by simp) (by simp; omega) (hs.at (i := 9) rfl)) (PermsAt.of_own (ps := (unTo xs ps g.length g.length)) (by simp) (by simp; omega) (hs.at (i := 10) rfl)) hokA (by rw [renG_len]; exact hbk) (by simp) (by simp))) (fun q4 hq4 => ?_)
            refine RunL.still rfl rfl rfl (Still.move rfl rfl) ?_
            refine RunL.still rfl rfl rfl (Still.extractN rfl rfl rfl) ?_
            refine RunL.still rfl rfl rfl (Still.extractN rfl rfl rfl) ?_
            refine RunL.grows rfl rfl rfl (Grows.alloc rfl Tryz.zeroValue24) (fun b22 _ => ?_)
            refine RunL.does0 rfl rfl (Does.store rfl rfl rfl (i := 0) rfl Tryz.sizeOf24 rfl (rfl) rfl) (fun _ _ => ?_)
            refine RunL.conv (fun _ hs => hs.re 0 rfl (show _ = HL.obj b22 (.cells #[.slice q4.1 (renG (renG g xs ps) (bkTo xs g.length g.length) (unTo xs ps g.length g.length)).length q4.2] 24 (0, 0)) from rfl)) ?_
            refine RunL.still rfl rfl rfl (Still.assign rfl rfl) ?_
            refine RunL.nil ?_
            refine Ends.then ?_
            refine RunC.seq ?_
            refine RunC.seq ?_
            refine RunC.region ?_
            refine RunL.still rfl rfl rfl (Still.move rfl rfl) ?_
            refine RunL.conv (fun _ hs => hs.sub (HSub.pick 4 rfl (HSub.pick 4 rfl (HSub.pick 2 rfl (HSub.pick 0 rfl (HSub.pick 2 rfl (HSub.pick 2 rfl (HSub.pick 2 rfl (HSub.pick 1 rfl (HSub.pick 0 rfl (HSub.nil _))))))))))) ?_
            refine RunL.still rfl rfl rfl (Still.neq rfl rfl rfl) ?_
            refine RunL.again (t := 155) (u := .bool false) rfl (rfl) ?_
            refine RunL.still rfl rfl rfl (Still.move rfl rfl) ?_
            refine RunL.still rfl rfl rfl (Still.move rfl rfl) ?_
            refine RunL.still rfl rfl rfl (Still.neq rfl rfl rfl) ?_
            refine RunL.again (t := 158) (u := .bool false) rfl (rfl) ?_
            refine RunL.still rfl rfl rfl (Still.pickF rfl rfl rfl) ?_
            refine RunL.still rfl rfl rfl (Still.move rfl rfl) ?_
            refine RunL.still rfl rfl rfl (Still.loads rfl rfl Tryz.isAgg24 Tryz.sizeOf24 (vs := [_]) rfl (fun _ hs => cells_nth (hs.at (i := 1) rfl) ⟨rfl, trivial⟩)) ?_
            refine RunL.still rfl rfl rfl (Still.loads rfl rfl Tryz.isAgg24 Tryz.sizeOf24 (vs := [_]) rfl (fun _ hs => cells_nth (hs.at (i := 2) rfl) ⟨rfl, trivial⟩)) ?_
            refine RunL.grows rfl rfl rfl (Grows.call (vs := #[_, _]) rfl rfl Tryz.call20 (fun w hs => rf_Same q2.1 _ q2.2 (renG (renG g xs ps) ys qs) q3.1 _ q3.2 (renG g (bothTo xs ys g.length g.length) (byTo ps qs ys g.length g.length)) w (GluAt.of_ownG (q := q2) (g := (renG (renG g xs ps) ys qs)) (by simp only [renG_len]; omega) (hs.at (i := 6) rfl)) (GluAt.of_ownG (q := q3) (g := (renG g (bothTo xs ys g.length g.length) (byTo ps qs ys g.length g.length))) (by simp only [renG_len]; omega) (hs.at (i := 7) rfl)))) (fun _ _ => ?_)
            refine RunL.again (t := 163) (u := .bool true) rfl (congrArg Value.bool (decide_eq_true hcomp)) ?_
            refine RunL.still rfl rfl rfl (Still.not rfl rfl) ?_
            refine RunL.still rfl rfl rfl (Still.pickF rfl rfl rfl) ?_
            refine RunL.still rfl rfl rfl (Still.move rfl rfl) ?_
            refine RunL.still rfl rfl rfl (Still.loads rfl rfl Tryz.isAgg24 Tryz.sizeOf24 (vs := [_]) rfl (fun _ hs => cells_nth (hs.at (i := 3) rfl) ⟨rfl, trivial⟩)) ?_
            refine RunL.still rfl rfl rfl (Still.loads rfl rfl Tryz.isAgg24 Tryz.sizeOf24 (vs := [_]) rfl (fun _ hs => cells_nth (hs.at (i := 4) rfl) ⟨rfl, trivial⟩)) ?_
            refine RunL.grows rfl rfl rfl (Grows.call (vs := #[_, _]) rfl rfl Tryz.call20 (fun w hs => rf_Same q4.1 _ q4.2 (renG (renG g xs ps) (bkTo xs g.length g.length) (unTo xs ps g.length g.length)) gb GA gc g w (GluAt.of_ownG (q := q4) (g := (renG (renG g xs ps) (bkTo xs g.length g.length) (unTo xs ps g.length g.length))) (by simp only [renG_len]; omega) (hs.at (i := 8) rfl)) (hg.sym hs))) (fun _ _ => ?_)
            refine RunL.again (t := 169) (u := .bool true) rfl (congrArg Value.bool (decide_eq_true hundo)) ?_
            refine RunL.still rfl rfl rfl (Still.not rfl rfl) ?_
            refine RunL.still rfl rfl rfl (Still.pickF rfl rfl rfl) ?_
            refine RunL.nil ?_
            refine Ends.then ?_
            refine RunC.cond_false rfl ?_
            refine RunC.skip ?_
            refine Ends.then ?_
            refine RunC.seq ?_
            refine RunC.region ?_
            refine RunL.still rfl rfl rfl (Still.loads rfl rfl Tryz.isAgg24 Tryz.sizeOf24 (vs := [_]) rfl (fun _ hs => cells_nth (hs.at (i := 4) rfl) ⟨rfl, trivial⟩)) ?_
            refine RunL.conv (fun _ hs => hs.sub (HSub.pick 0 rfl (HSub.pick 3 rfl (HSub.pick 3 rfl (HSub.nil _))))) ?_
            refine RunL.grows rfl rfl rfl (Grows.call (vs := #[_]) rfl rfl Tryz.call15 (fun w hs => gl_OrientB gb GA gc g w (hg.sym hs) hok)) (fun v1 _ => ?_)
            refine RunL.still rfl rfl rfl (Still.move rfl rfl) ?_
            refine RunL.still rfl rfl rfl (Still.extractN rfl rfl rfl) ?_
            refine RunL.still rfl rfl rfl (Still.extractN rfl rfl rfl) ?_
            refine RunL.still rfl rfl rfl (Still.extractN rfl rfl rfl) ?_
            refine RunL.still rfl rfl rfl (Still.assign rfl rfl) ?_
            refine RunL.still rfl rfl rfl (Still.assign rfl rfl) ?_
            refine RunL.still rfl rfl rfl (Still.assign rfl rfl) ?_
            refine RunL.nil ?_
            refine Ends.then ?_
            refine RunC.seq ?_
            refine RunC.region ?_
            refine RunL.still rfl rfl rfl (Still.loads rfl rfl Tryz.isAgg24 Tryz.sizeOf24 (vs := [_]) rfl (fun _ hs => cells_nth (hs.at (i := 0) rfl) ⟨rfl, trivial⟩)) ?_
            refine RunL.grows rfl rfl rfl (Grows.call (vs := #[_]) rfl rfl Tryz.call15 (fun w hs => gl_OrientB q1.1 _ q1.2 (renG g xs ps) w (GluAt.of_ownG (q := q1) (g := (renG g xs ps)) (by simp only [renG_len]; omega) (hs.at (i := 2) rfl)) hokA)) (fun v2 _ => ?_)
            refine RunL.still rfl rfl rfl (Still.move rfl rfl) ?_
            refine RunL.still rfl rfl rfl (Still.extractN rfl rfl rfl) ?_
            refine RunL.still rfl rfl rfl (Still.extractN rfl rfl rfl) ?_
            refine RunL.still rfl rfl rfl (Still.extractN rfl rfl rfl) ?_
            refine RunL.still rfl rfl rfl (Still.assign rfl rfl) ?_
            refine RunL.still rfl rfl rfl (Still.assign rfl rfl) ?_
            refine RunL.still rfl rfl rfl (Still.assign rfl rfl) ?_
            refine RunL.nil ?_
            refine Ends.then ?_
            refine RunC.seq ?_
            refine RunC.region ?_
            refine RunL.still rfl rfl rfl (Still.loads rfl rfl Tryz.isAgg24 Tryz.sizeOf24 (vs := [_]) rfl (fun _ hs => cells_nth (hs.at (i := 1) rfl) ⟨rfl, trivial⟩)) ?_
            refine RunL.grows rfl rfl rfl (Grows.call (vs := #[_]) rfl rfl Tryz.call16 (fun w hs => gl_Parts gb GA gc g w (hg.sym hs) hok)) (fun p1 _ => ?_)
            refine RunL.still rfl rfl rfl (Still.move rfl rfl) ?_
            refine RunL.still rfl rfl rfl (Still.extractN rfl rfl rfl) ?_
            refine RunL.still rfl rfl rfl (Still.extractN rfl rfl rfl) ?_
            refine RunL.still rfl rfl rfl (Still.assign rfl rfl) ?_
            refine RunL.still rfl rfl rfl (Still.assign rfl rfl) ?_
            refine RunL.nil ?_
            refine Ends.then ?_
            refine RunC.seq ?_
            refine RunC.region ?_
            refine RunL.still rfl rfl rfl (Still.loads rfl rfl Tryz.isAgg24 Tryz.sizeOf24 (vs := [_]) rfl (fun _ hs => cells_nth (hs.at (i := 1) rfl) ⟨rfl, trivial⟩)) ?_
            refine RunL.grows rfl rfl rfl (Grows.call (vs := #[_]) rfl rfl Tryz.call16 (fun w hs => gl_Parts q1.1 _ q1.2 (renG g xs ps) w (GluAt.of_ownG (q := q1) (g := (renG g xs ps)) (by simp only [renG_len]; omega) (hs.at (i := 3) rfl)) hokA)) (fun p2 _ => ?_)
            refine RunL.still rfl rfl rfl (Still.move rfl rfl) ?_
            refine RunL.still rfl rfl rfl (Still.extractN rfl rfl rfl) ?_
            refine RunL.still rfl rfl rfl (Still.extractN rfl rfl rfl) ?_
            refine RunL.still rfl rfl rfl (Still.assign rfl rfl) ?_
            refine RunL.still rfl rfl rfl (Still.assign rfl rfl) ?_
            refine RunL.nil ?_
            refine Ends.then ?_
            refine RunC.seq ?_
            refine RunC.region ?_
            refine RunL.still rfl rfl rfl (Still.move rfl rfl) ?_
            refine RunL.still rfl rfl rfl (Still.eql rfl rfl rfl) ?_
            refine RunL.again (t := 195) (u := .bool true) rfl (rfl) ?_
            refine RunL.still rfl rfl rfl (Still.move rfl rfl) ?_
            refine RunL.still rfl rfl rfl (Still.move rfl rfl) ?_
            refine RunL.still rfl rfl rfl (Still.eql rfl rfl rfl) ?_
            refine RunL.again (t := 198) (u := .bool true) rfl (rfl) ?_
            refine RunL.still rfl rfl rfl (Still.pickT rfl rfl rfl) ?_
            refine RunL.still rfl rfl rfl (Still.move rfl rfl) ?_
            refine RunL.still rfl rfl rfl (Still.move rfl rfl) ?_
            refine RunL.still rfl rfl rfl (Still.eql rfl rfl rfl) ?_
            refine RunL.again (t := 202) (u := .bool true) rfl (rfl) ?_
            refine RunL.still rfl rfl rfl (Still.pickT rfl rfl rfl) ?_
            refine RunL.still rfl rfl rfl (Still.move rfl rfl) ?_
            refine RunL.still rfl rfl rfl (Still.move rfl rfl) ?_
            refine RunL.still rfl rfl rfl (Still.eql rfl rfl rfl) ?_
            refine RunL.again (t := 206) (u := .bool true) rfl (rfl) ?_
            refine RunL.still rfl rfl rfl (Still.pickT rfl rfl rfl) ?_
            refine RunL.still rfl rfl rfl (Still.move rfl rfl) ?_
            refine RunL.still rfl rfl rfl (Still.move rfl rfl) ?_
            refine RunL.still rfl rfl rfl (Still.move rfl rfl) ?_
            refine RunL.still rfl rfl rfl (Still.eqlB rfl rfl rfl Tryz.underlying4) ?_
            refine RunL.again (t := 211) (u := .bool true) rfl (congrArg Value.bool (by rw [hori]; simp)) ?_
            refine RunL.still rfl rfl rfl (Still.pickT rfl rfl rfl) ?_
            refine RunL.still rfl rfl rfl (Still.move rfl rfl) ?_
            refine RunL.still rfl rfl rfl (Still.move rfl rfl) ?_
            refine RunL.grows rfl rfl rfl (Grows.call (vs := #[_]) rfl rfl Tryz.call17 (fun w hs => lw_count_parts p1 w hok (hs.own (i := 1) rfl))) (fun _ _ => ?_)
            refine RunL.still rfl rfl rfl (Still.move rfl rfl) ?_
            refine RunL.grows rfl rfl rfl (Grows.call (vs := #[_]) rfl rfl Tryz.call17 (fun w hs => lw_count_parts p2 w hokA (hs.own (i := 0) rfl))) (fun _ _ => ?_)
            refine RunL.still rfl rfl rfl (Still.eql rfl rfl rfl) ?_
            refine RunL.again (t := 218) (u := .bool true) rfl (congrArg Value.bool (decide_eq_true hpn.symm)) ?_
            refine RunL.still rfl rfl rfl (Still.pickT rfl rfl rfl) ?_
            refine RunL.still rfl rfl rfl (Still.move rfl rfl) ?_
            refine RunL.still rfl rfl rfl (Still.loads rfl rfl Tryz.isAgg24 Tryz.sizeOf24 (vs := [_]) rfl (fun _ hs => cells_nth (hs.at (i := 2) rfl) ⟨rfl, trivial⟩)) ?_
            refine RunL.still rfl rfl rfl (Still.loads rfl rfl Tryz.isAgg24 Tryz.sizeOf24 (vs := [_]) rfl (fun _ hs => cells_nth (hs.at (i := 3) rfl) ⟨rfl, trivial⟩)) ?_
            refine RunL.grows rfl rfl rfl (Grows.call (vs := #[_, _]) rfl rfl Tryz.call35 (fun w hs => rf_Renumbered q1.1 _ q1.2 (renG g xs ps) gb GA gc g w (GluAt.of_ownG (q := q1) (g := (renG g xs ps)) (by simp only [renG_len]; omega) (hs.at (i := 4) rfl)) (hg.sym hs) hokA hok (renG_len _ _ _) hrn)) (fun _ _ => ?_)
            refine RunL.again (t := 223) (u := .bool true) rfl (rfl) ?_
            refine RunL.still rfl rfl rfl (Still.pickT rfl rfl rfl) ?_
            refine RunL.still rfl rfl rfl (Still.assign rfl rfl) ?_
            refine RunL.nil ?_
            refine Ends.then ?_
            refine RunC.ret ?_
            refine Ends.leave (.inl rfl) (fun _ _ ok => results1 Tryz.results7 (Holds.tmp rfl) ok) (fun w5 hs => ?_)
            exact Ret.intro () trivial rfl (HSub.nil _) hs

end Go.Proofs
/- GlueRenumbers: for every gluing and lists, valid or not, the statement's function returns true and changes nothing. No condition. -/
namespace Go.Proofs.YtbnfcbmpgjmhmaaGreatDoor
open Go Go.V Go.ChangeShapes Go.WideShapes Go.ChangeAt Go.WideElems Go.RowKit
theorem own : ownKnob Tryz.prog.godebug = none := by kernel_rfl
theorem laidOut : laidOutB Tryz.prog = true := by kernel_rfl
set_option maxRecDepth 100000 in
theorem door_met (os : Os) (args : Array Value) : laidMetH Tryz.prog laidT ((World.laidAll Tryz.prog os laidT).forCall (fun _ _ => 0) ⟨#[], args, []⟩).memory := by
  rw [MakeChecks.laidMetH_plain _ _ _ laidT_plain]
  exact laidMet_laidAll _ (by kernel_rfl) (by kernel_rfl)
set_option maxRecDepth 100000 in
theorem lifted (os : Os) (started : os.Started) (H : Type) (enc : TypeId × Value → H) :
    ReturnsInHanded {} Tryz.checked os 7 .any (fun w args => (Rows.glueRenumbersSpec.pre enc Tryz.prog Tryz.f7 [] false w args ∧ laidMetH Tryz.prog laidT w) ∧ sizedMet enc Tryz.prog Tryz.f7 (OpenSpec.ofChange Rows.glueRenumbersSpec) false w args)
      (Rows.glueRenumbersSpec.post enc Tryz.prog Tryz.f7 false true false false) := by
  refine wrap_and_shaped (C := Tryz.checked) (X := fun w _ => laidMetH Tryz.prog laidT w) (fun _ _ _ hh h => h.of_heap hh) own started (by kernel_rfl) Tryz.func7
    (ChangeSpec.witness_shaped (enc := enc) (C := Tryz.checked) (os := os) (X := fun w _ => laidMetH Tryz.prog laidT w) false (World.laidAll Tryz.prog os laidT) #[.agg #[.slice none 0 0], .slice none 0 0, .slice none 0 0, .slice none 0 0, .slice none 0 0] 8 (World.laidAll_os _ _ _) (World.shaped_of_ZipB (by kernel_rfl) (by kernel_rfl)) (by kernel_rfl) (by kernel_rfl) (by kernel_rfl) (door_met os _)) ?_
  intro W base args ds gs before hval0 hW hL hSh
  have hE : Env W := env_of_laid hL hSh
  have hval : ∀ (j : Nat) t v, Tryz.f7.params[j]? = some t → args[j]? = some v → Value.okWide Tryz.prog W .any base t v := hval0
  have hW' := hW
  have hlt := hW.lt
  obtain ⟨p, q, hA0, hV, rfl, hfz, hnd⟩ := hW
  have hA : DataW.TrodAll enc Tryz.prog W 0 (fun _ => true) true Tryz.f7.params.toList args.toList ds p := hA0
  rw [Tryz.params7] at hA hval
  obtain ⟨v0, v1, v2, v3, v4, d0, d1, d2, d3, d4, p0, p1, p2, p3, p4, rfl, rfl, rfl, h0, h1, h2, h3, h4⟩ := trodAll_five hA
  obtain ⟨rfl, rfl⟩ := trodVars_none hV
  obtain ⟨bs0, A0, cap0, x0, rfl, m0⟩ := open_glu (hval 0 24 v0 rfl rfl) h0
  obtain ⟨bs1, A1, cap1, x1, rfl, m1⟩ := open_lis (hval 1 36 v1 rfl rfl) h1
  obtain ⟨bs2, A2, cap2, x2, rfl, m2⟩ := open_lis (hval 2 36 v2 rfl rfl) h2
  obtain ⟨bs3, A3, cap3, x3, rfl, m3⟩ := open_perms (hval 3 43 v3 rfl rfl) h3
  obtain ⟨bs4, A4, cap4, x4, rfl, m4⟩ := open_perms (hval 4 43 v4 rfl rfl) h4
  refine (lw_GlueRenumbers bs0 A0 cap0 x0 bs1 A1 cap1 x1 bs2 A2 cap2 x2 bs3 A3 cap3 x3 bs4 A4 cap4 x4 W hE m0 m1 m2 m3 m4).mono fun e W' hR => ?_
  obtain ⟨_, _, rfl, hs⟩ := hR
  have hb : RowKit.Below W.heap.size W W' := hs.old.below
  refine ⟨_, rfl, _, _, _, [], p0 ++ p1 ++ p2 ++ p3 ++ p4, [], hW', trodAll_mk1 (shut_bool Tryz.underlying4 _), ?_, rfl, hb.frame _, fun h => by cases h⟩
  have k0 := Below.trod laidOut (by kernel_rfl) (of_decide_eq_true (by kernel_rfl)) h0 hb (fun x hx => hlt x (by simp [hx]))
  have k1 := Below.trod laidOut (by kernel_rfl) (of_decide_eq_true (by kernel_rfl)) h1 hb (fun x hx => hlt x (by simp [hx]))
  have k2 := Below.trod laidOut (by kernel_rfl) (of_decide_eq_true (by kernel_rfl)) h2 hb (fun x hx => hlt x (by simp [hx]))
  have k3 := Below.trod laidOut (by kernel_rfl) (of_decide_eq_true (by kernel_rfl)) h3 hb (fun x hx => hlt x (by simp [hx]))
  have k4 := Below.trod laidOut (by kernel_rfl) (of_decide_eq_true (by kernel_rfl)) h4 hb (fun x hx => hlt x (by simp [hx]))
  have kk := trodAll_mk5 k0 k1 k2 k3 k4
  simp only [← List.append_assoc] at kk
  exact kk
theorem glueRenumbers_holds : Rows.GlueRenumbersSaid :=
  OpenClaim.holds_of_wide 7 Tryz.f7 rfl rfl rfl rfl rfl rfl rfl ⟨rfl, rfl, rfl, rfl, rfl⟩ rfl rfl rfl rfl rfl (by kernel_rfl) Tryz.func7 (by kernel_rfl)
    (of_decide_eq_true (by kernel_rfl)) (by unfold Func.isWrapper; first | (rw [if_pos (by decide +kernel)]; kernel_rfl) | (rw [if_neg (by decide +kernel)]; exact ⟨rfl, rfl⟩))
    (fun os started H enc _ => lifted os started H enc)
end Go.Proofs.YtbnfcbmpgjmhmaaGreatDoor
