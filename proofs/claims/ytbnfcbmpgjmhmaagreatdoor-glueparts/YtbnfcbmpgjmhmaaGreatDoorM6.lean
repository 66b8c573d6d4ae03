/- The reference: whether two gluings are equal but for a renumbering. -/
import Derived.Test.YtbnfcbmpgjmhmaaGreatDoorM5
import Derived.Test.YtbnfcbmpgjmhmaaGreatDoorM4
import Derived.Test.YtbnfcbmpgjmhmaaGreatDoorProg
import Derived.KernelRfl
import Derived.Test.YtbnfcbmpgjmhmaaGreatDoorM1
import Derived.Test.YtbnfcbmpgjmhmaaGreatDoorRows
import Derived.LaidMore
import Derived.Stop.Joined
import Derived.Carry
import Derived.Lay
namespace Go.Proofs
open Go Go.V
set_option maxRecDepth 20000
theorem rnT_none {a b : Glu} {l m : List Int} {t : Nat} (h : rnT nthP a b l m (t + 1) = none) : ∀ d, rnT nthP a b l m (t + 1 + d) = none
  | 0 => h
  | d + 1 => by rw [← Nat.add_assoc, rnT, rnT_none h d]; rfl
theorem anyP_mono {a b : Glu} {t u k : Nat} (h : anyP nthP a b t u k = true) (hk : k ≤ 24) : anyP nthP a b t u 24 = true := by
  obtain ⟨j, hj, e⟩ := (anyP_iff k).1 h
  exact (anyP_iff 24).2 ⟨j, by omega, e⟩
theorem findU_skip {a b : Glu} {m : List Int} {used : List Bool} {t k i : Nat} (h : ¬ (used.getD (m.getD i 0).toNat false = false ∧ anyP nthP a b t i 24 = true)) : findU nthP a b m used t (k + 1) i = findU nthP a b m used t k (i + 1) := by rw [findU, if_neg h]
theorem findU_hit {a b : Glu} {m : List Int} {used : List Bool} {t k i : Nat} (h1 : used.getD (m.getD i 0).toNat false = false) (h2 : anyP nthP a b t i 24 = true) : findU nthP a b m used t (k + 1) i = some i := by rw [findU, if_pos ⟨h1, h2⟩]
def usedOf (m : List Int) (used : List Bool) : Option Nat → List Bool
  | none => used
  | some v => used.set (m.getD v 0).toNat true
theorem rn_next {a b : Glu} {l m : List Int} {t : Nat} {used : List Bool} {r : Option Nat} {n : Nat} (hT : rnT nthP a b l m t = some used) (hs : ¬ seenB l t t = true) (hr : r.isSome = true) (h1 : ∀ v, r = some v → findU nthP a b m used t m.length 0 = some v ∧ v < n) : rnT nthP a b l m (t + 1) = some (usedOf m used r) := by
  obtain ⟨v, rfl⟩ := Option.isSome_iff_exists.1 hr
  rw [rnT, hT]
  show rnStep nthP a b l m t used = _
  rw [rnStep, if_neg hs, (h1 v rfl).1]; rfl
theorem rn_fail {a b : Glu} {l m : List Int} {t n : Nat} {used : List Bool} (hT : rnT nthP a b l m t = some used) (hs : ¬ seenB l t t = true) (h1 : findU nthP a b m used t m.length 0 = none) (ht : t < n) (h : (rnT nthP a b l m n).isSome = true) : False := by
  have hno : rnT nthP a b l m (t + 1) = none := by
    rw [rnT, hT]
    show rnStep nthP a b l m t used = _
    rw [rnStep, if_neg hs, h1]; rfl
  have := rnT_none hno (n - (t + 1))
  rw [show t + 1 + (n - (t + 1)) = n by omega] at this
  rw [this] at h; cases h

theorem rf_Renumbered (ba : Option Addr) (A : Addr) (ca : Nat) (a : Glu) (bb : Option Addr) (B : Addr) (cb : Nat) (b : Glu) (w : World) (hga : GluAt w ba A a) (hgb : GluAt w bb B b) (ha : okG a = true) (hb : okG b = true) (hl : a.length = b.length) (hyes : (rnT nthP a b (partsOf a) (partsOf b) a.length).isSome = true) : Gives Tryz.prog 35 #[gluV ba ca a, gluV bb cb b] w Nil (fun _ : Unit => True) (fun _ => .bool true) (fun _ => []) := by
  have hla := hga.len
  have hlb := hgb.len
  have h1000 := okG_len ha
  have h1001 := okG_len hb
  have hpa := parts_len ha
  have hpb := parts_len hb
  have hNb := partsN_le' hb
  refine fn_of_run (S := Nil) (args := [gluV ba ca a, gluV bb cb b]) (n := 112) (L := []) Tryz.func35 rfl Tryz.ntmps35 (Nat.le_of_ble_eq_true rfl) (Sym.nil _ _) ?_
  change RunC _ _ _ [(0, _), (1, _)] _
  refine RunC.seq ?_
  refine RunC.region ?_
  refine RunL.grows rfl rfl rfl (Grows.box rfl rfl) (fun b2 _ => ?_)
  refine RunL.grows rfl rfl rfl (Grows.box rfl rfl) (fun b3 _ => ?_)
  refine RunL.still rfl rfl rfl (Still.assign rfl rfl) ?_
  refine RunL.nil ?_
  refine Ends.then ?_
  refine RunC.seq ?_
  refine RunC.seq ?_
  refine RunC.region ?_
  refine RunL.still rfl rfl rfl (Still.fieldAddrL (off := 0) (off' := 0) rfl rfl Tryz.underlying24 rfl Tryz.sizeOf22 rfl) ?_
  refine RunL.still rfl rfl rfl (Still.load rfl rfl Tryz.isAgg22 (fun _ hs => cell_nth (hs.at (i := 1) rfl) rfl)) ?_
  refine RunL.still rfl rfl rfl (Still.lenSlice rfl rfl Tryz.underlying22) ?_
  refine RunL.still rfl rfl rfl (Still.fieldAddrL (off := 0) (off' := 0) rfl rfl Tryz.underlying24 rfl Tryz.sizeOf22 rfl) ?_
  refine RunL.still rfl rfl rfl (Still.load rfl rfl Tryz.isAgg22 (fun _ hs => cell_nth (hs.at (i := 0) rfl) rfl)) ?_
  refine RunL.still rfl rfl rfl (Still.lenSlice rfl rfl Tryz.underlying22) ?_
  refine RunL.still rfl rfl rfl (Still.neq rfl rfl rfl) ?_
  refine RunL.still rfl rfl rfl (Still.move rfl rfl) ?_
  refine RunL.split (t := 23) rfl (fun h23 => ?_) (fun h23 => ?_)
  · have h23 := of_decide_eq_true h23
    omega
  · have h23 := of_decide_eq_false h23
    refine RunL.still rfl rfl rfl (Still.loads rfl rfl Tryz.isAgg24 Tryz.sizeOf24 (vs := [_]) rfl (fun _ hs => cells_nth (hs.at (i := 1) rfl) ⟨rfl, trivial⟩)) ?_
    refine RunL.grows rfl rfl rfl (Grows.call (vs := #[_]) rfl rfl Tryz.call11 (fun w hs => rf_Check ba A ca a w (hga.sym hs))) (fun _ _ => ?_)
    refine RunL.still rfl rfl rfl (Still.neq rfl rfl rfl) ?_
    refine RunL.again (t := 26) (u := .bool false) rfl (congrArg Value.bool (by rw [chkG_ok ha]; rfl)) ?_
    refine RunL.still rfl rfl rfl (Still.pickF rfl rfl rfl) ?_
    refine RunL.still rfl rfl rfl (Still.move rfl rfl) ?_
    refine RunL.still rfl rfl rfl (Still.loads rfl rfl Tryz.isAgg24 Tryz.sizeOf24 (vs := [_]) rfl (fun _ hs => cells_nth (hs.at (i := 0) rfl) ⟨rfl, trivial⟩)) ?_
    refine RunL.grows rfl rfl rfl (Grows.call (vs := #[_]) rfl rfl Tryz.call11 (fun w hs => rf_Check bb B cb b w (hgb.sym hs))) (fun _ _ => ?_)
    refine RunL.still rfl rfl rfl (Still.neq rfl rfl rfl) ?_
    refine RunL.again (t := 31) (u := .bool false) rfl (congrArg Value.bool (by rw [chkG_ok hb]; rfl)) ?_
    refine RunL.still rfl rfl rfl (Still.pickF rfl rfl rfl) ?_
    refine RunL.nil ?_
    refine Ends.then ?_
    refine RunC.cond_false rfl ?_
    refine RunC.skip ?_
    refine Ends.then ?_
    refine RunC.seq ?_
    refine RunC.region ?_
    refine RunL.still rfl rfl rfl (Still.loads rfl rfl Tryz.isAgg24 Tryz.sizeOf24 (vs := [_]) rfl (fun _ hs => cells_nth (hs.at (i := 1) rfl) ⟨rfl, trivial⟩)) ?_
    refine RunL.grows rfl rfl rfl (Grows.call (vs := #[_]) rfl rfl Tryz.call30 (fun w hs => rf_Parts ba A ca a w (hga.sym hs) ha)) (fun pa _ => ?_)
    refine RunL.still rfl rfl rfl (Still.move rfl rfl) ?_
    refine RunL.still rfl rfl rfl (Still.extractN rfl rfl rfl) ?_
    refine RunL.still rfl rfl rfl (Still.extractN rfl rfl rfl) ?_
    refine RunL.still rfl rfl rfl (Still.assign rfl rfl) ?_
    refine RunL.still rfl rfl rfl (Still.assign rfl rfl) ?_
    refine RunL.nil ?_
    refine Ends.then ?_
    refine RunC.seq ?_
    refine RunC.region ?_
    refine RunL.still rfl rfl rfl (Still.loads rfl rfl Tryz.isAgg24 Tryz.sizeOf24 (vs := [_]) rfl (fun _ hs => cells_nth (hs.at (i := 1) rfl) ⟨rfl, trivial⟩)) ?_
    refine RunL.grows rfl rfl rfl (Grows.call (vs := #[_]) rfl rfl Tryz.call30 (fun w hs => rf_Parts bb B cb b w (hgb.sym hs) hb)) (fun pb _ => ?_)
    refine RunL.still rfl rfl rfl (Still.move rfl rfl) ?_
    refine RunL.still rfl rfl rfl (Still.extractN rfl rfl rfl) ?_
    refine RunL.still rfl rfl rfl (Still.extractN rfl rfl rfl) ?_
    refine RunL.still rfl rfl rfl (Still.assign rfl rfl) ?_
    refine RunL.still rfl rfl rfl (Still.assign rfl rfl) ?_
    refine RunL.nil ?_
    refine Ends.then ?_
    refine RunC.seq ?_
    refine RunC.region ?_
    refine RunL.still rfl rfl rfl (Still.move rfl rfl) ?_
    refine RunL.still rfl rfl rfl (Still.lenOwn rfl rfl Tryz.underlying36 (fun _ hs => hs.own (i := 0) rfl)) ?_
    refine RunL.grows rfl rfl rfl (Grows.make (n := b.length) (xs := (bools (List.replicate b.length false))) rfl rfl rfl Tryz.underlying71 (by kernel_rfl : (_ : Option _) = some (some (.bool false), 1, 1)) rfl (by omega) (by omega) (zeros_one _ _ |>.trans (bools_replicate _ _))) (fun b45 _ => ?_)
    refine RunL.still rfl rfl rfl (Still.assign rfl rfl) ?_
    refine RunL.nil ?_
    refine Ends.then ?_
    refine RunC.seq ?_
    refine RunC.seq ?_
    refine RunC.region ?_
    refine RunL.still rfl rfl rfl (Still.assign rfl rfl) ?_
    refine RunL.nil ?_
    refine Ends.then ?_
    refine RunC.block ?_
    refine RunC.loop2 (γ := Nat × List Bool) (keep := [(2, _), (3, _), (5, _), (7, _), (9, _)]) (hkeep := [_, _, _, _]) (fun (t, used) => t ≤ a.length ∧ rnT nthP a b (partsOf a) (partsOf b) t = some used ∧ used.length = b.length) (fun (t, used) => a.length - t) (fun (t, used) => [(10, iv t)]) (fun (t, used) => [HL.own 4 1 (.slice (some ⟨b45, 0, none⟩) b.length b.length) b.length (bools used)]) (0, List.replicate b.length false) ⟨by omega, by show some (List.replicate (partsOf b).length false) = _; rw [hpb], by simp⟩ (Fr.Sub.cons rfl (Fr.Sub.nil _)) (Fr.Sub.cons rfl (Fr.Sub.cons rfl (Fr.Sub.cons rfl (Fr.Sub.cons rfl (Fr.Sub.cons rfl (Fr.Sub.nil _)))))) (HSub.pick 0 rfl (HSub.pick 0 rfl (HSub.pick 0 rfl (HSub.pick 0 rfl (HSub.pick 0 rfl (HSub.nil _)))))) ?_
    rintro ⟨t, used⟩ ⟨ht, hT, hul⟩
    have ht : t ≤ a.length := ht
    have hT : rnT nthP a b (partsOf a) (partsOf b) t = some used := hT
    have hul : used.length = b.length := hul
    refine RunC.seq ?_
    refine RunC.seq ?_
    refine RunC.region ?_
    refine RunL.still rfl rfl rfl (Still.move rfl rfl) ?_
    refine RunL.still rfl rfl rfl (Still.move rfl rfl) ?_
    refine RunL.still rfl rfl rfl (Still.lenOwn rfl rfl Tryz.underlying36 (fun _ hs => hs.own (i := 2) rfl)) ?_
    refine RunL.still rfl rfl rfl (Still.lss rfl rfl rfl) ?_
    refine RunL.nil ?_
    refine Ends.then ?_
    refine RunC.cond rfl (fun h49 => ?_) (fun h49 => ?_)
    · have h49 := of_decide_eq_true h49
      have htN : t < a.length := by omega
      refine RunC.skip ?_
      refine Ends.then ?_
      refine RunC.seq ?_
      refine RunC.block ?_
      refine RunC.seq ?_
      refine RunC.region ?_
      refine RunL.still rfl rfl rfl (Still.assign rfl rfl) ?_
      refine RunL.nil ?_
      refine Ends.then ?_
      refine RunC.seq ?_
      refine RunC.seq ?_
      refine RunC.region ?_
      refine RunL.still rfl rfl rfl (Still.assign rfl rfl) ?_
      refine RunL.nil ?_
      refine Ends.then ?_
      refine RunC.block ?_
      refine RunC.loop2 (γ := Nat) (keep := [(2, _), (3, _), (5, _), (7, _), (9, _), (10, _)]) (hkeep := [_, _, _, _, _]) (fun k => k ≤ t) (fun k => t - k) (fun k => [(11, .bool (!seenB (partsOf a) t k)), (12, iv k)]) (fun k => []) 0 (by omega) (Fr.Sub.cons rfl (Fr.Sub.cons rfl (Fr.Sub.nil _))) (Fr.Sub.cons rfl (Fr.Sub.cons rfl (Fr.Sub.cons rfl (Fr.Sub.cons rfl (Fr.Sub.cons rfl (Fr.Sub.cons rfl (Fr.Sub.nil _))))))) (HSub.pick 0 rfl (HSub.pick 0 rfl (HSub.pick 0 rfl (HSub.pick 0 rfl (HSub.pick 0 rfl (HSub.nil _)))))) ?_
      rintro k hk
      refine RunC.seq ?_
      refine RunC.seq ?_
      refine RunC.region ?_
      refine RunL.still rfl rfl rfl (Still.move rfl rfl) ?_
      refine RunL.still rfl rfl rfl (Still.move rfl rfl) ?_
      refine RunL.still rfl rfl rfl (Still.lss rfl rfl rfl) ?_
      refine RunL.nil ?_
      refine Ends.then ?_
      refine RunC.cond rfl (fun h54 => ?_) (fun h54 => ?_)
      · have h54 := of_decide_eq_true h54
        refine RunC.skip ?_
        refine Ends.then ?_
        refine RunC.seq ?_
        refine RunC.block ?_
        refine RunC.draw 12 (.still 0 (.still 1 (.still 2 (.still 3 (.still 4 (.still 5 (.still 6 (.still 7 (.still 8 (.still 9 (.still 10 (.still 11 .done)))))))))))) (by kernel_rfl) (by kernel_rfl) ?_
        refine RunG.still rfl rfl rfl rfl (Still.move rfl rfl) ?_
        refine RunG.still rfl rfl rfl rfl (Still.move rfl rfl) ?_
        refine RunG.split (t := 58) rfl (fun h58 => ?_) (fun h58 => ?_)
        · skip
          refine RunG.still rfl rfl rfl rfl (Still.move rfl rfl) ?_
          refine RunG.still rfl rfl rfl rfl (Still.move rfl rfl) ?_
          refine RunG.still rfl rfl rfl rfl (Still.indexOwn rfl rfl rfl Tryz.underlying36 Tryz.sizeOf3 (fun _ hs => hs.own (i := 2) rfl) (by omega)) ?_
          refine RunG.still rfl rfl rfl rfl (Still.load rfl rfl Tryz.isAgg3 (fun w hs => own_at (hs.own (i := 2) rfl) (ints_get (getD_get' (by omega))))) ?_
          refine RunG.still rfl rfl rfl rfl (Still.move rfl rfl) ?_
          refine RunG.still rfl rfl rfl rfl (Still.move rfl rfl) ?_
          refine RunG.still rfl rfl rfl rfl (Still.indexOwn rfl rfl rfl Tryz.underlying36 Tryz.sizeOf3 (fun _ hs => hs.own (i := 2) rfl) (by omega)) ?_
          refine RunG.still rfl rfl rfl rfl (Still.load rfl rfl Tryz.isAgg3 (fun w hs => own_at (hs.own (i := 2) rfl) (ints_get (getD_get' (by omega))))) ?_
          refine RunG.still rfl rfl rfl rfl (Still.neq rfl rfl rfl) ?_
          refine RunG.still rfl rfl rfl rfl (Still.pickT rfl rfl rfl) ?_
          refine RunG.done ?_
          show RunL _ _ _ [_] _ _
          refine RunL.still rfl rfl rfl (Still.assign rfl rfl) ?_
          refine RunL.nil ?_
          refine Ends.block ?_
          refine Ends.then ?_
          refine RunC.region ?_
          refine RunL.still rfl rfl rfl (Still.move rfl rfl) ?_
          refine RunL.still rfl rfl rfl (Still.add rfl rfl rfl (fits64 (by omega) (by omega))) ?_
          refine RunL.still rfl rfl rfl (Still.assign rfl rfl) ?_
          refine RunL.nil ?_
          refine Ends.again (k + 1) ?_ ?_ (Fr.Sub.app ?_ ?_) ?_
          · show _; omega
          · show _ < _; omega
          · exact Fr.Sub.cons (congrArg (fun z => some (Value.bool z)) (by rw [seenB]; simp at h58; simp [h58])) (Fr.Sub.cons rfl (Fr.Sub.nil _))
          · exact Fr.Sub.cons rfl (Fr.Sub.cons rfl (Fr.Sub.cons rfl (Fr.Sub.cons rfl (Fr.Sub.cons rfl (Fr.Sub.cons rfl (Fr.Sub.nil _))))))
          · exact HSub.pick 0 rfl (HSub.pick 0 rfl (HSub.pick 0 rfl (HSub.pick 0 rfl (HSub.pick 0 rfl (HSub.nil _)))))
        · skip
          refine RunG.off rfl rfl rfl rfl ?_
          refine RunG.off rfl rfl rfl rfl ?_
          refine RunG.off rfl rfl rfl rfl ?_
          refine RunG.off rfl rfl rfl rfl ?_
          refine RunG.off rfl rfl rfl rfl ?_
          refine RunG.off rfl rfl rfl rfl ?_
          refine RunG.off rfl rfl rfl rfl ?_
          refine RunG.off rfl rfl rfl rfl ?_
          refine RunG.off rfl rfl rfl rfl ?_
          refine RunG.still rfl rfl rfl rfl (Still.pickF rfl rfl rfl) ?_
          refine RunG.done ?_
          show RunL _ _ _ [_] _ _
          refine RunL.still rfl rfl rfl (Still.assign rfl rfl) ?_
          refine RunL.nil ?_
          refine Ends.block ?_
          refine Ends.then ?_
          refine RunC.region ?_
          refine RunL.still rfl rfl rfl (Still.move rfl rfl) ?_
          refine RunL.still rfl rfl rfl (Still.add rfl rfl rfl (fits64 (by omega) (by omega))) ?_
          refine RunL.still rfl rfl rfl (Still.assign rfl rfl) ?_
          refine RunL.nil ?_
          refine Ends.again (k + 1) ?_ ?_ (Fr.Sub.app ?_ ?_) ?_
          · show _; omega
          · show _ < _; omega
          · exact Fr.Sub.cons (congrArg (fun z => some (Value.bool z)) (by rw [seenB]; simp at h58; simp [h58])) (Fr.Sub.cons rfl (Fr.Sub.nil _))
          · exact Fr.Sub.cons rfl (Fr.Sub.cons rfl (Fr.Sub.cons rfl (Fr.Sub.cons rfl (Fr.Sub.cons rfl (Fr.Sub.cons rfl (Fr.Sub.nil _))))))
          · exact HSub.pick 0 rfl (HSub.pick 0 rfl (HSub.pick 0 rfl (HSub.pick 0 rfl (HSub.pick 0 rfl (HSub.nil _)))))
      · have h54 := of_decide_eq_false h54
        obtain rfl : t = k := by omega
        refine RunC.exit ?_
        refine Ends.then_exit ?_
        refine Ends.then_exit ?_
        refine Ends.block_exit ?_
        refine Ends.then ?_
        refine RunC.seq ?_
        refine RunC.seq ?_
        refine RunC.region ?_
        refine RunL.still rfl rfl rfl (Still.move rfl rfl) ?_
        refine RunL.still rfl rfl rfl (Still.not rfl rfl) ?_
        refine RunL.nil ?_
        refine Ends.then ?_
        refine RunC.cond rfl (fun h70 => ?_) (fun h70 => ?_)
        · have hseen : seenB (partsOf a) t t = true := by simpa using h70
          refine RunC.exit ?_
          refine Ends.then_exit ?_
          refine Ends.block_exit ?_
          refine Ends.then ?_
          refine RunC.region ?_
          refine RunL.still rfl rfl rfl (Still.move rfl rfl) ?_
          refine RunL.still rfl rfl rfl (Still.add rfl rfl rfl (fits64 (by omega) (by omega))) ?_
          refine RunL.still rfl rfl rfl (Still.assign rfl rfl) ?_
          refine RunL.nil ?_
          refine Ends.again (t + 1, used) ?_ ?_ (Fr.Sub.app ?_ ?_) ?_
          · exact ⟨by show t + 1 ≤ _; omega, by rw [rnT, hT]; show rnStep _ _ _ _ _ _ _ = _; rw [rnStep, if_pos hseen], hul⟩
          · show _ - (t + 1) < _ - t; omega
          · exact Fr.Sub.cons rfl (Fr.Sub.nil _)
          · exact Fr.Sub.cons rfl (Fr.Sub.cons rfl (Fr.Sub.cons rfl (Fr.Sub.cons rfl (Fr.Sub.cons rfl (Fr.Sub.nil _)))))
          · exact HSub.pick 0 rfl (HSub.pick 0 rfl (HSub.pick 0 rfl (HSub.pick 0 rfl (HSub.pick 0 rfl (HSub.nil _)))))
        · have hseen : ¬ seenB (partsOf a) t t = true := by simpa using h70
          refine RunC.skip ?_
          refine Ends.then ?_
          refine RunC.seq ?_
          refine RunC.region ?_
          refine RunL.still rfl rfl rfl (Still.assign rfl rfl) ?_
          refine RunL.nil ?_
          refine Ends.then ?_
          refine RunC.seq ?_
          refine RunC.seq ?_
          refine RunC.region ?_
          refine RunL.still rfl rfl rfl (Still.assign rfl rfl) ?_
          refine RunL.nil ?_
          refine Ends.then ?_
          refine RunC.block ?_
          refine RunC.loop2 (γ := Nat × Option Nat) (keep := [(2, _), (3, _), (5, _), (7, _), (9, _), (10, _)]) (hkeep := [_, _, _, _]) (fun (u, r) => u ≤ b.length ∧ (r = none → findU nthP a b (partsOf b) used t (partsOf b).length 0 = findU nthP a b (partsOf b) used t ((partsOf b).length - u) u) ∧ (∀ v, r = some v → findU nthP a b (partsOf b) used t (partsOf b).length 0 = some v ∧ v < b.length)) (fun (u, r) => b.length - u) (fun (u, r) => [(13, .bool r.isSome), (14, iv u)]) (fun (u, r) => [HL.own 4 1 (.slice (some ⟨b45, 0, none⟩) b.length b.length) b.length (bools (usedOf (partsOf b) used r))]) (0, none) ⟨by omega, fun _ => rfl, fun v hv => by cases hv⟩ (Fr.Sub.cons rfl (Fr.Sub.cons rfl (Fr.Sub.nil _))) (Fr.Sub.cons rfl (Fr.Sub.cons rfl (Fr.Sub.cons rfl (Fr.Sub.cons rfl (Fr.Sub.cons rfl (Fr.Sub.cons rfl (Fr.Sub.nil _))))))) (HSub.pick 0 (by rfl) (HSub.pick 0 rfl (HSub.pick 0 rfl (HSub.pick 0 rfl (HSub.pick 0 rfl (HSub.nil _)))))) ?_
          rintro ⟨u, r⟩ ⟨hu, hr0, hr1⟩
          have hu : u ≤ b.length := hu
          refine RunC.seq ?_
          refine RunC.seq ?_
          refine RunC.region ?_
          refine RunL.still rfl rfl rfl (Still.move rfl rfl) ?_
          refine RunL.still rfl rfl rfl (Still.move rfl rfl) ?_
          refine RunL.still rfl rfl rfl (Still.lenOwn rfl rfl Tryz.underlying36 (fun _ hs => hs.own (i := 1) rfl)) ?_
          refine RunL.still rfl rfl rfl (Still.lss rfl rfl rfl) ?_
          refine RunL.still rfl rfl rfl (Still.move rfl rfl) ?_
          refine RunL.split (t := 75) rfl (fun h75 => ?_) (fun h75 => ?_)
          · have h75 := of_decide_eq_true h75
            have huN : u < b.length := by omega
            have hru := parts_rng hb huN
            refine RunL.still rfl rfl rfl (Still.move rfl rfl) ?_
            refine RunL.still rfl rfl rfl (Still.not rfl rfl) ?_
            refine RunL.still rfl rfl rfl (Still.pickT rfl rfl rfl) ?_
            refine RunL.nil ?_
            refine Ends.then ?_
            refine RunC.cond rfl (fun h78 => ?_) (fun h78 => ?_)
            · obtain rfl : r = none := by cases r; rfl; simp at h78
              refine RunC.skip ?_
              refine Ends.then ?_
              refine RunC.seq ?_
              refine RunC.block ?_
              refine RunC.seq ?_
              refine RunC.seq ?_
              refine RunC.region ?_
              refine RunL.still rfl rfl rfl (Still.move rfl rfl) ?_
              refine RunL.still rfl rfl rfl (Still.move rfl rfl) ?_
              refine RunL.still rfl rfl rfl (Still.move rfl rfl) ?_
              refine RunL.still rfl rfl rfl (Still.indexOwn rfl rfl rfl Tryz.underlying36 Tryz.sizeOf3 (fun _ hs => hs.own (i := 1) rfl) (by omega)) ?_
              refine RunL.still rfl rfl rfl (Still.load rfl rfl Tryz.isAgg3 (fun w hs => own_at (hs.own (i := 1) rfl) (ints_get (getD_get' (by omega))))) ?_
              refine RunL.still rfl rfl rfl (Still.indexOwnI (m := ((partsOf b).getD u 0).toNat) rfl rfl rfl Tryz.underlying71 Tryz.sizeOf4 (fun _ hs => hs.own (i := 0) rfl) (by omega) (by omega)) ?_
              refine RunL.still rfl rfl rfl (Still.load rfl rfl Tryz.isAgg4 (fun w hs => own_at (hs.own (i := 0) rfl) (bools_get (getD_get (by show _ < used.length; rw [hul]; omega) false)))) ?_
              refine RunL.nil ?_
              refine Ends.then ?_
              refine RunC.cond rfl (fun h87 => ?_) (fun h87 => ?_)
              · have h87 : used.getD ((partsOf b).getD u 0).toNat false = true := h87
                refine RunC.exit ?_
                refine Ends.then_exit ?_
                refine Ends.block_exit ?_
                refine Ends.then ?_
                refine RunC.region ?_
                refine RunL.still rfl rfl rfl (Still.move rfl rfl) ?_
                refine RunL.still rfl rfl rfl (Still.add rfl rfl rfl (fits64 (by omega) (by omega))) ?_
                refine RunL.still rfl rfl rfl (Still.assign rfl rfl) ?_
                refine RunL.nil ?_
                refine Ends.again (u + 1, none) ?_ ?_ (Fr.Sub.app ?_ ?_) ?_
                · exact ⟨by show u + 1 ≤ _; omega, fun _ => by rw [hr0 rfl, show (partsOf b).length - u = ((partsOf b).length - (u + 1)) + 1 by omega, findU_skip (fun h => by rw [h87] at h; cases h.1)], fun v hv => by cases hv⟩
                · show _ - (u + 1) < _ - u; omega
                · exact Fr.Sub.cons rfl (Fr.Sub.cons rfl (Fr.Sub.nil _))
                · exact Fr.Sub.cons rfl (Fr.Sub.cons rfl (Fr.Sub.cons rfl (Fr.Sub.cons rfl (Fr.Sub.cons rfl (Fr.Sub.cons rfl (Fr.Sub.nil _))))))
                · exact HSub.pick 0 rfl (HSub.pick 0 rfl (HSub.pick 0 rfl (HSub.pick 0 rfl (HSub.pick 0 rfl (HSub.nil _)))))
              · have h87 : used.getD ((partsOf b).getD u 0).toNat false = false := h87
                refine RunC.skip ?_
                refine Ends.then ?_
                refine RunC.seq ?_
                refine RunC.seq ?_
                refine RunC.region ?_
                refine RunL.still rfl rfl rfl (Still.assign rfl rfl) ?_
                refine RunL.nil ?_
                refine Ends.then ?_
                refine RunC.block ?_
                refine RunC.loop2 (γ := Nat) (keep := [(2, _), (3, _), (5, _), (7, _), (9, _), (10, _), (14, _)]) (hkeep := [_, _, _, _, _]) (fun p => p ≤ 24) (fun p => 24 - p) (fun p => [(13, .bool (anyP nthP a b t u p)), (15, iv p)]) (fun p => []) 0 (by omega) (Fr.Sub.cons rfl (Fr.Sub.cons rfl (Fr.Sub.nil _))) (Fr.Sub.cons rfl (Fr.Sub.cons rfl (Fr.Sub.cons rfl (Fr.Sub.cons rfl (Fr.Sub.cons rfl (Fr.Sub.cons rfl (Fr.Sub.cons rfl (Fr.Sub.nil _)))))))) (HSub.pick 0 rfl (HSub.pick 0 rfl (HSub.pick 0 rfl (HSub.pick 0 rfl (HSub.pick 0 rfl (HSub.nil _)))))) ?_
                rintro p hp
                refine RunC.seq ?_
                refine RunC.seq ?_
                refine RunC.region ?_
                refine RunL.still rfl rfl rfl (Still.move rfl rfl) ?_
                refine RunL.still rfl rfl rfl (Still.lss rfl rfl rfl) ?_
                refine RunL.still rfl rfl rfl (Still.move rfl rfl) ?_
                refine RunL.split (t := 90) rfl (fun h90 => ?_) (fun h90 => ?_)
                · have h90 := of_decide_eq_true h90
                  refine RunL.still rfl rfl rfl (Still.move rfl rfl) ?_
                  refine RunL.still rfl rfl rfl (Still.not rfl rfl) ?_
                  refine RunL.still rfl rfl rfl (Still.pickT rfl rfl rfl) ?_
                  refine RunL.nil ?_
                  refine Ends.then ?_
                  refine RunC.cond rfl (fun h93 => ?_) (fun h93 => ?_)
                  · have hnf : anyP nthP a b t u p = false := by simpa using h93
                    refine RunC.skip ?_
                    refine Ends.then ?_
                    refine RunC.seq ?_
                    refine RunC.block ?_
                    refine RunC.anyK (by kernel_rfl) ?_
                    refine RunK.still [] rfl rfl rfl rfl rfl rfl (Still.loads rfl rfl Tryz.isAgg24 Tryz.sizeOf24 (vs := [_]) rfl (fun _ hs => cells_nth (hs.at (i := 4) rfl) ⟨rfl, trivial⟩)) ?_
                    refine RunK.still [] rfl rfl rfl rfl rfl rfl (Still.loads rfl rfl Tryz.isAgg24 Tryz.sizeOf24 (vs := [_]) rfl (fun _ hs => cells_nth (hs.at (i := 3) rfl) ⟨rfl, trivial⟩)) ?_
                    refine RunK.still [] rfl rfl rfl rfl rfl rfl (Still.move rfl rfl) ?_
                    refine RunK.still [] rfl rfl rfl rfl rfl rfl (Still.move rfl rfl) ?_
                    refine RunK.still [] rfl rfl rfl rfl rfl rfl (Still.move rfl rfl) ?_
                    refine RunK.grows [100] rfl rfl rfl rfl rfl rfl (Grows.call (vs := #[_]) rfl rfl Tryz.call69 (fun w hs => rf_Nth p w (by omega))) ?_
                    refine RunK.grows [96, 97, 98, 99, 101] rfl rfl rfl rfl rfl rfl (Grows.call (vs := #[_, _, _, _, _]) rfl rfl Tryz.call68 (fun w hs => rf_matches ba A ca a bb B cb b t u (nthP p) w (hga.sym hs) (hgb.sym hs) ha hb (by omega) (by omega) (nth_all.ok p (by omega)))) ?_
                    refine RunK.still [96, 97, 98, 99, 100, 101, 102] rfl rfl rfl rfl rfl rfl (Still.assign rfl rfl) ?_
                    refine RunK.done (by kernel_rfl) rfl ?_
                    refine Ends.block ?_
                    refine Ends.then ?_
                    refine RunC.region ?_
                    refine RunL.still rfl rfl rfl (Still.move rfl rfl) ?_
                    refine RunL.still rfl rfl rfl (Still.add rfl rfl rfl (fits64 (by omega) (by omega))) ?_
                    refine RunL.still rfl rfl rfl (Still.assign rfl rfl) ?_
                    refine RunL.nil ?_
                    refine Ends.again (p + 1) ?_ ?_ (Fr.Sub.app ?_ ?_) ?_
                    · show _; omega
                    · show _ < _; omega
                    · exact Fr.Sub.cons (congrArg (fun z => some (Value.bool z)) (by rw [anyP, hnf]; rfl)) (Fr.Sub.cons rfl (Fr.Sub.nil _))
                    · exact Fr.Sub.cons rfl (Fr.Sub.cons rfl (Fr.Sub.cons rfl (Fr.Sub.cons rfl (Fr.Sub.cons rfl (Fr.Sub.cons rfl (Fr.Sub.cons rfl (Fr.Sub.nil _)))))))
                    · exact HSub.pick 0 rfl (HSub.pick 0 rfl (HSub.pick 0 rfl (HSub.pick 0 rfl (HSub.pick 0 rfl (HSub.nil _)))))
                  · have hfp : anyP nthP a b t u p = true := by simpa using h93
                    refine RunC.exit ?_
                    refine Ends.then_exit ?_
                    refine Ends.then_exit ?_
                    refine Ends.block_exit ?_
                    refine Ends.then ?_
                    refine RunC.seq ?_
                    refine RunC.region ?_
                    refine RunL.still rfl rfl rfl (Still.move rfl rfl) ?_
                    refine RunL.nil ?_
                    refine Ends.then ?_
                    refine RunC.cond rfl (fun h103 => ?_) (fun h103 => ?_)
                    · have h103p := h103
                      have h103 := anyP_mono h103 hp
                      refine RunC.region ?_
                      refine RunL.still rfl rfl rfl (Still.move rfl rfl) ?_
                      refine RunL.still rfl rfl rfl (Still.move rfl rfl) ?_
                      refine RunL.still rfl rfl rfl (Still.move rfl rfl) ?_
                      refine RunL.still rfl rfl rfl (Still.indexOwn rfl rfl rfl Tryz.underlying36 Tryz.sizeOf3 (fun _ hs => hs.own (i := 1) rfl) (by omega)) ?_
                      refine RunL.still rfl rfl rfl (Still.load rfl rfl Tryz.isAgg3 (fun w hs => own_at (hs.own (i := 1) rfl) (ints_get (getD_get' (by omega))))) ?_
                      refine RunL.still rfl rfl rfl (Still.indexOwnI (m := ((partsOf b).getD u 0).toNat) rfl rfl rfl Tryz.underlying71 Tryz.sizeOf4 (fun _ hs => hs.own (i := 0) rfl) (by omega) (by omega)) ?_
                      refine RunL.does0 rfl rfl (Does.storeOwn1 (xs' := (bools (used.set ((partsOf b).getD u 0).toNat true))) rfl rfl rfl rfl (i := 0) rfl Tryz.sizeOf4 rfl (by rw [length_bools]; show _ * 1 < used.length; rw [hul]; omega) (bools_set _ _ _)) (fun _ _ => ?_)
                      refine RunL.nil ?_
                      refine Ends.block ?_
                      refine Ends.then ?_
                      refine RunC.region ?_
                      refine RunL.still rfl rfl rfl (Still.move rfl rfl) ?_
                      refine RunL.still rfl rfl rfl (Still.add rfl rfl rfl (fits64 (by omega) (by omega))) ?_
                      refine RunL.still rfl rfl rfl (Still.assign rfl rfl) ?_
                      refine RunL.nil ?_
                      refine Ends.again (u + 1, some u) ?_ ?_ (Fr.Sub.app ?_ ?_) ?_
                      · exact ⟨by show u + 1 ≤ _; omega, (fun h => by cases h), fun v hv => by cases hv; exact ⟨by rw [hr0 rfl, show (partsOf b).length - u = ((partsOf b).length - (u + 1)) + 1 by omega, findU_hit h87 h103], by omega⟩⟩
                      · show _ - (u + 1) < _ - u; omega
                      · exact Fr.Sub.cons (congrArg (fun z => some (Value.bool z)) h103p) (Fr.Sub.cons rfl (Fr.Sub.nil _))
                      · exact Fr.Sub.cons rfl (Fr.Sub.cons rfl (Fr.Sub.cons rfl (Fr.Sub.cons rfl (Fr.Sub.cons rfl (Fr.Sub.cons rfl (Fr.Sub.nil _))))))
                      · exact HSub.pick 0 (by rfl) (HSub.pick 0 rfl (HSub.pick 0 rfl (HSub.pick 0 rfl (HSub.pick 0 rfl (HSub.nil _)))))
                    · have h103p := h103
                      refine RunC.skip ?_
                      refine Ends.block ?_
                      refine Ends.then ?_
                      refine RunC.region ?_
                      refine RunL.still rfl rfl rfl (Still.move rfl rfl) ?_
                      refine RunL.still rfl rfl rfl (Still.add rfl rfl rfl (fits64 (by omega) (by omega))) ?_
                      refine RunL.still rfl rfl rfl (Still.assign rfl rfl) ?_
                      refine RunL.nil ?_
                      refine Ends.again (u + 1, none) ?_ ?_ (Fr.Sub.app ?_ ?_) ?_
                      · exact ⟨by show u + 1 ≤ _; omega, fun _ => by rw [hr0 rfl, show (partsOf b).length - u = ((partsOf b).length - (u + 1)) + 1 by omega, findU_skip (fun h => by first | (rw [h103] at h; cases h.2) | (rw [hfp] at h103; cases h103))], fun v hv => by cases hv⟩
                      · show _ - (u + 1) < _ - u; omega
                      · exact Fr.Sub.cons (congrArg (fun z => some (Value.bool z)) h103p) (Fr.Sub.cons rfl (Fr.Sub.nil _))
                      · exact Fr.Sub.cons rfl (Fr.Sub.cons rfl (Fr.Sub.cons rfl (Fr.Sub.cons rfl (Fr.Sub.cons rfl (Fr.Sub.cons rfl (Fr.Sub.nil _))))))
                      · exact HSub.pick 0 rfl (HSub.pick 0 rfl (HSub.pick 0 rfl (HSub.pick 0 rfl (HSub.pick 0 rfl (HSub.nil _)))))
                · have h90 := of_decide_eq_false h90
                  obtain rfl : p = 24 := by omega
                  refine RunL.off rfl rfl rfl ?_
                  refine RunL.off rfl rfl rfl ?_
                  refine RunL.still rfl rfl rfl (Still.pickF rfl rfl rfl) ?_
                  refine RunL.nil ?_
                  refine Ends.then ?_
                  refine RunC.cond_false rfl ?_
                  refine RunC.exit ?_
                  refine Ends.then_exit ?_
                  refine Ends.then_exit ?_
                  refine Ends.block_exit ?_
                  refine Ends.then ?_
                  refine RunC.seq ?_
                  refine RunC.region ?_
                  refine RunL.still rfl rfl rfl (Still.move rfl rfl) ?_
                  refine RunL.nil ?_
                  refine Ends.then ?_
                  refine RunC.cond rfl (fun h103 => ?_) (fun h103 => ?_)
                  · have h103p := h103
                    have h103 := anyP_mono h103 hp
                    refine RunC.region ?_
                    refine RunL.still rfl rfl rfl (Still.move rfl rfl) ?_
                    refine RunL.still rfl rfl rfl (Still.move rfl rfl) ?_
                    refine RunL.still rfl rfl rfl (Still.move rfl rfl) ?_
                    refine RunL.still rfl rfl rfl (Still.indexOwn rfl rfl rfl Tryz.underlying36 Tryz.sizeOf3 (fun _ hs => hs.own (i := 1) rfl) (by omega)) ?_
                    refine RunL.still rfl rfl rfl (Still.load rfl rfl Tryz.isAgg3 (fun w hs => own_at (hs.own (i := 1) rfl) (ints_get (getD_get' (by omega))))) ?_
                    refine RunL.still rfl rfl rfl (Still.indexOwnI (m := ((partsOf b).getD u 0).toNat) rfl rfl rfl Tryz.underlying71 Tryz.sizeOf4 (fun _ hs => hs.own (i := 0) rfl) (by omega) (by omega)) ?_
                    refine RunL.does0 rfl rfl (Does.storeOwn1 (xs' := (bools (used.set ((partsOf b).getD u 0).toNat true))) rfl rfl rfl rfl (i := 0) rfl Tryz.sizeOf4 rfl (by rw [length_bools]; show _ * 1 < used.length; rw [hul]; omega) (bools_set _ _ _)) (fun _ _ => ?_)
                    refine RunL.nil ?_
                    refine Ends.block ?_
                    refine Ends.then ?_
                    refine RunC.region ?_
                    refine RunL.still rfl rfl rfl (Still.move rfl rfl) ?_
                    refine RunL.still rfl rfl rfl (Still.add rfl rfl rfl (fits64 (by omega) (by omega))) ?_
                    refine RunL.still rfl rfl rfl (Still.assign rfl rfl) ?_
                    refine RunL.nil ?_
                    refine Ends.again (u + 1, some u) ?_ ?_ (Fr.Sub.app ?_ ?_) ?_
                    · exact ⟨by show u + 1 ≤ _; omega, (fun h => by cases h), fun v hv => by cases hv; exact ⟨by rw [hr0 rfl, show (partsOf b).length - u = ((partsOf b).length - (u + 1)) + 1 by omega, findU_hit h87 h103], by omega⟩⟩
                    · show _ - (u + 1) < _ - u; omega
                    · exact Fr.Sub.cons (congrArg (fun z => some (Value.bool z)) h103p) (Fr.Sub.cons rfl (Fr.Sub.nil _))
                    · exact Fr.Sub.cons rfl (Fr.Sub.cons rfl (Fr.Sub.cons rfl (Fr.Sub.cons rfl (Fr.Sub.cons rfl (Fr.Sub.cons rfl (Fr.Sub.nil _))))))
                    · exact HSub.pick 0 (by rfl) (HSub.pick 0 rfl (HSub.pick 0 rfl (HSub.pick 0 rfl (HSub.pick 0 rfl (HSub.nil _)))))
                  · have h103p := h103
                    refine RunC.skip ?_
                    refine Ends.block ?_
                    refine Ends.then ?_
                    refine RunC.region ?_
                    refine RunL.still rfl rfl rfl (Still.move rfl rfl) ?_
                    refine RunL.still rfl rfl rfl (Still.add rfl rfl rfl (fits64 (by omega) (by omega))) ?_
                    refine RunL.still rfl rfl rfl (Still.assign rfl rfl) ?_
                    refine RunL.nil ?_
                    refine Ends.again (u + 1, none) ?_ ?_ (Fr.Sub.app ?_ ?_) ?_
                    · exact ⟨by show u + 1 ≤ _; omega, fun _ => by rw [hr0 rfl, show (partsOf b).length - u = ((partsOf b).length - (u + 1)) + 1 by omega, findU_skip (fun h => by first | (rw [h103] at h; cases h.2) | (rw [hfp] at h103; cases h103))], fun v hv => by cases hv⟩
                    · show _ - (u + 1) < _ - u; omega
                    · exact Fr.Sub.cons (congrArg (fun z => some (Value.bool z)) h103p) (Fr.Sub.cons rfl (Fr.Sub.nil _))
                    · exact Fr.Sub.cons rfl (Fr.Sub.cons rfl (Fr.Sub.cons rfl (Fr.Sub.cons rfl (Fr.Sub.cons rfl (Fr.Sub.cons rfl (Fr.Sub.nil _))))))
                    · exact HSub.pick 0 rfl (HSub.pick 0 rfl (HSub.pick 0 rfl (HSub.pick 0 rfl (HSub.pick 0 rfl (HSub.nil _)))))
            · skip
              refine RunC.exit ?_
              refine Ends.then_exit ?_
              refine Ends.then_exit ?_
              refine Ends.block_exit ?_
              refine Ends.then ?_
              refine RunC.seq ?_
              refine RunC.region ?_
              refine RunL.still rfl rfl rfl (Still.move rfl rfl) ?_
              refine RunL.still rfl rfl rfl (Still.not rfl rfl) ?_
              refine RunL.nil ?_
              refine Ends.then ?_
              refine RunC.cond rfl (fun h111 => ?_) (fun h111 => ?_)
              · have hrn : r = none := by cases r; rfl; simp at h111
                first | (exact (rn_fail hT hseen (by rw [hr0 hrn, show (partsOf b).length - b.length = 0 by omega]; rfl) htN hyes).elim) | (subst hrn; simp at h78)
              · have hnx := rn_next hT hseen (r := r) (by simpa using h111) hr1
                refine RunC.skip ?_
                refine Ends.block ?_
                refine Ends.then ?_
                refine RunC.region ?_
                refine RunL.still rfl rfl rfl (Still.move rfl rfl) ?_
                refine RunL.still rfl rfl rfl (Still.add rfl rfl rfl (fits64 (by omega) (by omega))) ?_
                refine RunL.still rfl rfl rfl (Still.assign rfl rfl) ?_
                refine RunL.nil ?_
                refine Ends.again (t + 1, usedOf (partsOf b) used r) ?_ ?_ (Fr.Sub.app ?_ ?_) ?_
                · exact ⟨by show t + 1 ≤ _; omega, hnx, by cases r <;> simp [usedOf, hul]⟩
                · show _ - (t + 1) < _ - t; omega
                · exact Fr.Sub.cons rfl (Fr.Sub.nil _)
                · exact Fr.Sub.cons rfl (Fr.Sub.cons rfl (Fr.Sub.cons rfl (Fr.Sub.cons rfl (Fr.Sub.cons rfl (Fr.Sub.nil _)))))
                · exact HSub.pick 0 rfl (HSub.pick 0 rfl (HSub.pick 0 rfl (HSub.pick 0 rfl (HSub.pick 0 rfl (HSub.nil _)))))
          · have h75 := of_decide_eq_false h75
            obtain rfl : u = b.length := by omega
            refine RunL.off rfl rfl rfl ?_
            refine RunL.off rfl rfl rfl ?_
            refine RunL.still rfl rfl rfl (Still.pickF rfl rfl rfl) ?_
            refine RunL.nil ?_
            refine Ends.then ?_
            refine RunC.cond_false rfl ?_
            refine RunC.exit ?_
            refine Ends.then_exit ?_
            refine Ends.then_exit ?_
            refine Ends.block_exit ?_
            refine Ends.then ?_
            refine RunC.seq ?_
            refine RunC.region ?_
            refine RunL.still rfl rfl rfl (Still.move rfl rfl) ?_
            refine RunL.still rfl rfl rfl (Still.not rfl rfl) ?_
            refine RunL.nil ?_
            refine Ends.then ?_
            refine RunC.cond rfl (fun h111 => ?_) (fun h111 => ?_)
            · have hrn : r = none := by cases r; rfl; simp at h111
              first | (exact (rn_fail hT hseen (by rw [hr0 hrn, show (partsOf b).length - b.length = 0 by omega]; rfl) htN hyes).elim) | (subst hrn; simp at h78)
            · have hnx := rn_next hT hseen (r := r) (by simpa using h111) hr1
              refine RunC.skip ?_
              refine Ends.block ?_
              refine Ends.then ?_
              refine RunC.region ?_
              refine RunL.still rfl rfl rfl (Still.move rfl rfl) ?_
              refine RunL.still rfl rfl rfl (Still.add rfl rfl rfl (fits64 (by omega) (by omega))) ?_
              refine RunL.still rfl rfl rfl (Still.assign rfl rfl) ?_
              refine RunL.nil ?_
              refine Ends.again (t + 1, usedOf (partsOf b) used r) ?_ ?_ (Fr.Sub.app ?_ ?_) ?_
              · exact ⟨by show t + 1 ≤ _; omega, hnx, by cases r <;> simp [usedOf, hul]⟩
              · show _ - (t + 1) < _ - t; omega
              · exact Fr.Sub.cons rfl (Fr.Sub.nil _)
              · exact Fr.Sub.cons rfl (Fr.Sub.cons rfl (Fr.Sub.cons rfl (Fr.Sub.cons rfl (Fr.Sub.cons rfl (Fr.Sub.nil _)))))
              · exact HSub.pick 0 rfl (HSub.pick 0 rfl (HSub.pick 0 rfl (HSub.pick 0 rfl (HSub.pick 0 rfl (HSub.nil _)))))
    · have h49 := of_decide_eq_false h49
      refine RunC.exit ?_
      refine Ends.then_exit ?_
      refine Ends.then_exit ?_
      refine Ends.block_exit ?_
      refine Ends.then ?_
      refine RunC.seq ?_
      refine RunC.region ?_
      refine RunL.still rfl rfl rfl (Still.assign rfl rfl) ?_
      refine RunL.nil ?_
      refine Ends.then ?_
      refine RunC.ret ?_
      refine Ends.leave (.inl rfl) (fun _ _ ok => results1 Tryz.results35 (Holds.tmp rfl) ok) (fun w1 hs => ?_)
      exact Ret.intro () trivial rfl (HSub.nil _) hs

end Go.Proofs
/- The laws of renumbering. -/
namespace Go.V
open Go
theorem inj_surj : ∀ (n : Nat) (f : Nat → Nat), (∀ i, i < n → f i < n) → (∀ i j, i < n → j < n → f i = f j → i = j) → ∀ t, t < n → ∃ i, i < n ∧ f i = t
  | 0, _, _, _, t, ht => absurd ht (Nat.not_lt_zero _)
  | n + 1, f, hl, hi, t, ht => by
    have hg : ∀ i, i < n → (if f i = n then f n else f i) < n := fun i hin => by
      split
      · rename_i e
        have h1 := hl n (by omega)
        have h2 : f n ≠ n := fun e2 => by have := hi i n (by omega) (by omega) (by rw [e, e2]); omega
        omega
      · have := hl i (by omega); omega
    have hgi : ∀ i j, i < n → j < n → (if f i = n then f n else f i) = (if f j = n then f n else f j) → i = j := fun i j hin hjn e => by
      split at e <;> split at e
      · rename_i a b; exact hi i j (by omega) (by omega) (by rw [a, b])
      · have := hi n j (by omega) (by omega) e; omega
      · have := hi i n (by omega) (by omega) e; omega
      · exact hi i j (by omega) (by omega) e
    have ih := inj_surj n (fun i => if f i = n then f n else f i) hg hgi
    by_cases e1 : t = f n
    · exact ⟨n, by omega, e1.symm⟩
    · by_cases e2 : t = n
      · subst e2
        have h1 := hl t (by omega)
        obtain ⟨i, hin, e⟩ := ih (f t) (by omega)
        have e : (if f i = t then f t else f i) = f t := e
        split at e
        · rename_i h; exact ⟨i, by omega, h⟩
        · have := hi i t (by omega) (by omega) e; omega
      · obtain ⟨i, hin, e⟩ := ih t (by omega)
        have e : (if f i = n then f n else f i) = t := e
        split at e
        · exact absurd e.symm e1
        · exact ⟨i, by omega, e⟩
theorem inj_le {m n : Nat} {f : Nat → Nat} (hl : ∀ i, i < m → f i < n) (hi : ∀ i j, i < m → j < m → f i = f j → i = j) : m ≤ n := by
  rcases Nat.lt_or_ge n m with h | h
  · exfalso
    obtain ⟨i, hin, e⟩ := inj_surj (n + 1) f (fun i h2 => by have := hl i (by omega); omega) (fun i j h1 h2 => hi i j (by omega) (by omega)) n (by omega)
    have := hl i (by omega); omega
  · exact h
/-- An order, forth and back. -/
structure OrdF (xs : List Int) (n : Nat) (X B : Nat → Nat) : Prop where
  val : ∀ i, i < n → xs.getD i 0 = (X i : Int)
  lt : ∀ i, i < n → X i < n
  bk : ∀ t, t < n → bkI xs n (t : Int) = (B t : Int)
  blt : ∀ t, t < n → B t < n
  xb : ∀ t, t < n → X (B t) = t
  bx : ∀ i, i < n → B (X i) = i
theorem mtTo_iff {xs : List Int} {n : Nat} (h : ordTo xs n n = true) : ∀ i, i ≤ n → ∀ k, k < n → ((mtTo xs n i).getD k false = true ↔ ∃ j, j < i ∧ (xs.getD j 0).toNat = k)
  | 0, _, k, hk => by simp [mtTo, List.getD_eq_getElem?_getD, hk]
  | i + 1, hi, k, hk => by
    have hb := ordTo_at h (show i < n by omega)
    rw [mtTo]
    by_cases e : (xs.getD i 0).toNat = k
    · subst e
      rw [getB_set_self (by rw [mtTo_len]; omega)]
      exact ⟨fun _ => ⟨i, by omega, rfl⟩, fun _ => rfl⟩
    · rw [getB_set_ne e, mtTo_iff h i (by omega) k hk]
      exact ⟨fun ⟨j, hj, e2⟩ => ⟨j, by omega, e2⟩, fun ⟨j, hj, e2⟩ => by
        rcases Nat.lt_or_ge j i with h1 | h1
        · exact ⟨j, h1, e2⟩
        · obtain rfl : j = i := by omega
          exact absurd e2 e⟩
theorem ord_inj {xs : List Int} {n : Nat} (h : ordTo xs n n = true) {i j : Nat} (hi : i < n) (hj : j < n) (e : (xs.getD i 0).toNat = (xs.getD j 0).toNat) : i = j := by
  have key : ∀ i j, i < j → j < n → (xs.getD i 0).toNat ≠ (xs.getD j 0).toNat := fun i j hij hj e => by
    have h1 := ordTo_le h (show j + 1 ≤ n by omega)
    rw [ordTo, Bool.and_eq_true, Bool.and_eq_true] at h1
    have hb := ordTo_at h hj
    have := (mtTo_iff h j (by omega) (xs.getD j 0).toNat (by omega)).2 ⟨i, hij, e⟩
    rw [this] at h1
    exact absurd h1.2 (by decide)
  rcases Nat.lt_trichotomy i j with h1 | h1 | h1
  · exact absurd e (key i j h1 hj)
  · exact h1
  · exact absurd e.symm (key j i h1 hi)
theorem bkTo_val {xs : List Int} {n : Nat} (h : ordTo xs n n = true) : ∀ i, i ≤ n → ∀ j, j < i → (bkTo xs n i).getD (xs.getD j 0).toNat 0 = (j : Int)
  | 0, _, j, hj => absurd hj (Nat.not_lt_zero _)
  | i + 1, hi, j, hj => by
    have hb := ordTo_at h (show i < n by omega)
    rw [bkTo]
    by_cases e : j = i
    · subst e; exact getD_set_self' (by rw [bkTo_len]; omega)
    · rw [getD_set_ne' (fun e2 => e (ord_inj h (by omega) (by omega) e2.symm))]
      exact bkTo_val h i (by omega) j (by omega)
theorem ord_F {xs : List Int} {n : Nat} (h : ordTo xs n n = true) : OrdF xs n (fun i => (xs.getD i 0).toNat) (fun t => (bkI xs n (t : Int)).toNat) := by
  have hs := inj_surj n (fun i => (xs.getD i 0).toNat) (fun i hi => by have := ordTo_at h hi; show (xs.getD i 0).toNat < n; omega) (fun i j hi hj e => ord_inj h hi hj e)
  have hb : ∀ i, i < n → bkI xs n (((xs.getD i 0).toNat : Nat) : Int) = (i : Int) := fun i hi => by
    rw [bkI, Int.toNat_natCast]; exact bkTo_val h n (Nat.le_refl _) i hi
  refine ⟨fun i hi => by have := ordTo_at h hi; show xs.getD i 0 = ((xs.getD i 0).toNat : Int); omega, fun i hi => by have := ordTo_at h hi; show (xs.getD i 0).toNat < n; omega, fun t ht => ?_, fun t ht => ?_, fun t ht => ?_, fun i hi => ?_⟩
  · have := bkTo_bound xs n (by omega) n (Nat.le_refl _) (((t : Nat) : Int)).toNat
    show bkI xs n t = ((bkI xs n t).toNat : Int)
    rw [bkI]; omega
  · obtain ⟨i, hi, e⟩ := hs t ht
    have e : (xs.getD i 0).toNat = t := e
    subst e
    show (bkI xs n _).toNat < n
    rw [hb i hi]; simpa using hi
  · obtain ⟨i, hi, e⟩ := hs t ht
    have e : (xs.getD i 0).toNat = t := e
    subst e
    show (xs.getD (bkI xs n _).toNat 0).toNat = _
    rw [hb i hi]; simp
  · show (bkI xs n (((xs.getD i 0).toNat : Nat) : Int)).toNat = i
    rw [hb i hi]; simp
section ren
variable {g : Glu} {xs : List Int} {ps : List P4} {X B : Nat → Nat}
theorem PB.eq {a b : Glu} (ha : okG a = true) (hb : okG b = true) {σ ρ : Nat → Nat} (h : PB a b σ ρ) : partsN a = partsN b := by
  have h1 : pn a ≤ pn b := inj_le (f := σ) (fun i hi => (h.s1 i hi).1) (fun i j hi hj e => by rw [← (h.s1 i hi).2, e, (h.s1 j hj).2])
  have h2 : pn b ≤ pn a := inj_le (f := ρ) (fun i hi => (h.s2 i hi).1) (fun i j hi hj e => by rw [← (h.s2 i hi).2, e, (h.s2 j hj).2])
  have p1 : 0 ≤ partsN a := (parts_A ha).pos
  have p2 : 0 ≤ partsN b := (parts_A hb).pos
  rw [pn, pn] at h1 h2; omega
end ren
end Go.V
/- Unions of gluings: validity, parts. -/
namespace Go.V
open Go
theorem uni_len (a b : Glu) : (uniG a b).length = a.length + b.length := uniG_len' a b
theorem uni_hi {a b : Glu} {t f : Nat} (ht : t < b.length) (hf : f < 4) : fAt (uniG a b) (t + a.length) f = shF a.length (fAt b t f) := uniG_hi ht hf
theorem uni_okG {a b : Glu} (ha : okG a = true) (hb : okG b = true) (hl : a.length + b.length ≤ 1000) : okG (uniG a b) = true := by
  refine okG_of (by rw [uni_len]; exact hl) fun v f hv hf => faceOk_iff.2 ?_
  rw [uni_len] at hv
  rcases Nat.lt_or_ge v a.length with h | h
  · by_cases h0 : (fAt a v f).tet < 0
    · exact .inl (by rw [uniG_lo h, okG_free ha h hf h0])
    · have hF := okG_glued ha h hf (by omega)
      have hw := okG_hi ha h hf hF.lo
      refine .inr ⟨by rw [uniG_lo h]; exact hF.lo, by rw [uniG_lo h, uni_len]; have := hF.hi; omega, by rw [uniG_lo h]; exact hF.ok, by rw [uniG_lo h]; exact hF.ne, ?_⟩
      rw [uniG_lo h, uniG_lo hw]; exact hF.back
  · obtain ⟨t, rfl⟩ : ∃ t, v = t + a.length := ⟨v - a.length, by omega⟩
    have ht : t < b.length := by omega
    have e := uni_hi (a := a) ht hf
    by_cases h0 : (fAt b t f).tet < 0
    · refine .inl ?_
      rw [e, shF, if_neg (by omega), okG_free hb ht hf h0]
    · have hF := okG_glued hb ht hf (by omega)
      have hw := okG_hi hb ht hf hF.lo
      have hp := okP_at hF.ok f
      rw [shF, if_pos hF.lo] at e
      have hlo := hF.lo; have hhi := hF.hi
      refine .inr ⟨by rw [e]; show 0 ≤ _ + _; omega, by rw [e, uni_len]; show _ + _ < _; omega, by rw [e]; exact hF.ok, fun k => ?_, ?_⟩
      · rw [e] at k
        exact hF.ne ⟨by have k1 : (fAt b t f).tet + a.length = ((t + a.length : Nat) : Int) := k.1; omega, k.2⟩
      · rw [e]
        show fAt (uniG a b) ((fAt b t f).tet + a.length).toNat ((fAt b t f).p.at f).toNat = _
        rw [show ((fAt b t f).tet + (a.length : Int)).toNat = (fAt b t f).tet.toNat + a.length by omega, uni_hi hw (by omega), hF.back, shF, if_pos (by show 0 ≤ (t : Int); omega)]
        show Fc.mk ((t : Int) + a.length) _ = Fc.mk (((t + a.length : Nat) : Int)) _
        rw [Int.natCast_add]
section lo
variable {g h : Glu}
def app (R : List Int) (s : BSt) : BSt := (s.1 ++ R, s.2)
theorem getD_app {l R : List Int} {i : Nat} (hi : i < l.length) : (l ++ R).getD i 0 = l.getD i 0 := by rw [List.getD_eq_getElem?_getD, List.getElem?_append_left hi, List.getD_eq_getElem?_getD]
theorem pFace_app (hg : okG g = true) {n : Int} {t f : Nat} (ht : t < g.length) (hf : f < 4) {s : BSt} (hs : PSt g s) (R : List Int) : pFace (uniG g h) n t f (app R s) = app R (pFace g n t f s) := by
  by_cases h0 : 0 ≤ (fAt g t f).tet
  · have hw := okG_hi hg ht hf h0
    have hl : (fAt g t f).tet.toNat < s.1.length := by rw [hs.len]; exact hw
    by_cases hc : s.1.getD (fAt g t f).tet.toNat 0 < 0
    · rw [pFace_go h0 hc, pFace_go (by rw [uniG_lo ht]; exact h0) (by rw [uniG_lo ht]; show (s.1 ++ R).getD _ 0 < 0; rw [getD_app hl]; exact hc), uniG_lo ht]
      show ((s.1 ++ R).set _ n, _) = (s.1.set _ n ++ R, _)
      rw [List.set_append_left _ _ hl]; rfl
    · rw [pFace_no (fun k => hc k.2), pFace_no (fun k => hc (by have := k.2; rw [uniG_lo ht] at this; have this : (s.1 ++ R).getD _ 0 < 0 := this; rwa [getD_app hl] at this))]
  · rw [pFace_no (fun k => h0 k.1), pFace_no (fun k => h0 (by have := k.1; rwa [uniG_lo ht] at this))]
theorem pTo_app (hg : okG g = true) {n : Int} (hn : 0 ≤ n) {t : Nat} (ht : t < g.length) {s : BSt} (hs : PSt g s) (R : List Int) : ∀ f, f ≤ 4 → pTo (uniG g h) n t (app R s) f = app R (pTo g n t s f)
  | 0, _ => rfl
  | f + 1, hf => by rw [pTo, pTo, pTo_app hg hn ht hs R f (by omega), pFace_app hg ht (by omega) (pTo_ok hn hg ht hs f (by omega))]
theorem pBfs_app (hg : okG g = true) {n : Int} (hn : 0 ≤ n) (R : List Int) : ∀ (k i : Nat) {s : BSt}, PSt g s → pBfs (uniG g h) n k i (app R s) = app R (pBfs g n k i s)
  | 0, _, _, _ => rfl
  | k + 1, i, s, hs => by
    rw [pBfs, pBfs]
    show (if i < s.2.length then pBfs (uniG g h) n k (i + 1) (pTo (uniG g h) n (s.2.getD i 0) (app R s) 4) else app R s) = _
    by_cases hi : i < s.2.length
    · have hm := hs.mem _ (getD_lt hi)
      rw [if_pos hi, if_pos hi, pTo_app hg hn hm hs R 4 (Nat.le_refl 4)]
      exact pBfs_app hg hn R k (i + 1) (pTo_ok hn hg hm hs 4 (Nat.le_refl 4))
    · rw [if_neg hi, if_neg hi]
theorem pBfs_fuel {n : Int} : ∀ (k i d : Nat) (s : BSt), (pBfs g n k i s).2.length ≤ i + k → pBfs g n (k + d) i s = pBfs g n k i s
  | 0, i, d, s, h => by rw [Nat.zero_add]; exact pBfs_done (by have h : s.2.length ≤ i + 0 := h; omega)
  | k + 1, i, d, s, h => by
    rw [show k + 1 + d = (k + d) + 1 by omega, pBfs, pBfs]
    by_cases hi : i < s.2.length
    · rw [if_pos hi, if_pos hi]
      rw [pBfs, if_pos hi] at h
      exact pBfs_fuel k (i + 1) d _ (by omega)
    · rw [if_neg hi, if_neg hi]
theorem pAll_app (hg : okG g = true) : ∀ t, t ≤ g.length → pAll (uniG g h) t = ((pAll g t).1 ++ List.replicate h.length (-1), (pAll g t).2)
  | 0, _ => by
    show (List.replicate (uniG g h).length (-1 : Int), (0 : Int)) = _
    rw [uni_len]
    show _ = (List.replicate g.length (-1 : Int) ++ List.replicate h.length (-1), (0 : Int))
    rw [List.replicate_append_replicate]
  | t + 1, ht => by
    have ih := pAll_app hg t (by omega)
    obtain ⟨hl, hn, _⟩ := pAll_ok hg t (by omega)
    have e : (pAll (uniG g h) t).1.getD t 0 = (pAll g t).1.getD t 0 := by rw [ih]; exact getD_app (by omega)
    by_cases hc : 0 ≤ (pAll g t).1.getD t 0
    · rw [pAll_keep hc, pAll_keep (by rw [e]; exact hc), ih]
    · rw [pAll_new hc, pAll_new (by rw [e]; exact hc), ih, uni_len]
      have hst := PSt.start hl (show t < g.length by omega) hn (by omega)
      have h1 : (((pAll g t).1 ++ List.replicate h.length (-1)).set t (pAll g t).2, [t]) = app (List.replicate h.length (-1)) ((pAll g t).1.set t (pAll g t).2, [t]) := by
        rw [app, List.set_append_left _ _ (by omega)]
      show ((pBfs (uniG g h) (pAll g t).2 (g.length + h.length) 0 (((pAll g t).1 ++ List.replicate h.length (-1)).set t (pAll g t).2, [t])).1, (pAll g t).2 + 1) = _
      rw [h1, pBfs_app hg hn _ _ _ hst, pBfs_fuel _ _ _ _ (by have := (pBfs_ok hn hg g.length 0 hst).room; omega)]
      rfl
theorem pFace_keep {n : Int} {t f v : Nat} {s : BSt} (hv : 0 ≤ s.1.getD v 0) : (pFace g n t f s).1.getD v 0 = s.1.getD v 0 := by
  rw [pFace]
  split
  · rename_i hc
    exact getD_set_ne' (fun e => by rw [e] at hc; omega)
  · rfl
theorem pTo_keep {n : Int} {t v : Nat} {s : BSt} (hv : 0 ≤ s.1.getD v 0) : ∀ f, (pTo g n t s f).1.getD v 0 = s.1.getD v 0
  | 0 => rfl
  | f + 1 => by have k := pTo_keep (n := n) (t := t) hv f; rw [pTo, pFace_keep (by rw [k]; exact hv), k]
theorem pBfs_keep {n : Int} {v : Nat} : ∀ (k i : Nat) {s : BSt}, 0 ≤ s.1.getD v 0 → (pBfs g n k i s).1.getD v 0 = s.1.getD v 0
  | 0, _, _, _ => rfl
  | k + 1, i, s, hv => by
    rw [pBfs]
    split
    · have e := pTo_keep (g := g) (n := n) (t := s.2.getD i 0) hv 4
      rw [pBfs_keep k (i + 1) (by rw [e]; exact hv), e]
    · rfl
theorem pAll_stay {v t : Nat} (hv : 0 ≤ (pAll g t).1.getD v 0) : ∀ d, (pAll g (t + d)).1.getD v 0 = (pAll g t).1.getD v 0
  | 0 => rfl
  | d + 1 => by
    have ih := pAll_stay hv d
    rw [← Nat.add_assoc]
    by_cases hc : 0 ≤ (pAll g (t + d)).1.getD (t + d) 0
    · rw [pAll_keep hc, ih]
    · rw [pAll_new hc]
      have hne : t + d ≠ v := fun e => hc (by rw [e] at ih ⊢; rw [ih]; exact hv)
      have e : ((pAll g (t + d)).1.set (t + d) (pAll g (t + d)).2).getD v 0 = (pAll g t).1.getD v 0 := by rw [getD_set_ne' hne, ih]
      show (pBfs g _ _ 0 (_, [t + d])).1.getD v 0 = _
      rw [pBfs_keep _ _ (by show 0 ≤ (List.set _ _ _).getD v 0; rw [e]; exact hv)]
      exact e
/-- The parts of the first keep their numbers. -/
theorem parts_lo (hg : okG g = true) {v : Nat} (hv : v < g.length) : (partsOf (uniG g h)).getD v 0 = (partsOf g).getD v 0 := by
  have e := pAll_app (h := h) hg g.length (Nat.le_refl _)
  have hl := parts_len hg
  have e1 : (pAll (uniG g h) g.length).1.getD v 0 = (partsOf g).getD v 0 := by rw [e]; exact getD_app (by show v < (partsOf g).length; omega)
  have := pAll_stay (g := uniG g h) (v := v) (t := g.length) (by rw [e1]; exact (parts_rng hg hv).1) h.length
  rw [partsOf, uni_len, this, e1]
end lo
end Go.V
/- The parts of a union: those of both. -/
namespace Go.V
open Go
section
variable {g h : Glu}
theorem Cn_lo1 (hg : okG g = true) {t u : Nat} (ht : t < g.length) (k : Cn (uniG g h) t u) : Cn g t u := by
  induction k with
  | refl => exact .refl _
  | @step u f _ hu hf h0 ih =>
    have hl := ih.lt hg ht
    rw [uniG_lo hl] at h0 ⊢
    exact ih.step hl hf h0
theorem Cn_lo2 {t u : Nat} (k : Cn g t u) : Cn (uniG g h) t u := by
  induction k with
  | refl => exact .refl _
  | @step u f _ hu hf h0 ih =>
    have e : fAt (uniG g h) u f = fAt g u f := uniG_lo hu
    rw [← e] at h0 ⊢
    exact ih.step (by rw [uni_len]; omega) hf h0
theorem Cn_hi1 (hh : okG h = true) {t u : Nat} (ht : t < h.length) (k : Cn (uniG g h) (t + g.length) u) : ∃ v, u = v + g.length ∧ Cn h t v := by
  induction k with
  | refl => exact ⟨t, rfl, .refl _⟩
  | @step u f _ hu hf h0 ih =>
    obtain ⟨v, rfl, hv⟩ := ih
    have hl := hv.lt hh ht
    have e := uni_hi (a := g) hl hf
    rw [e] at h0 ⊢
    by_cases h1 : 0 ≤ (fAt h v f).tet
    · rw [shF, if_pos h1]
      exact ⟨(fAt h v f).tet.toNat, by show ((fAt h v f).tet + (g.length : Int)).toNat = _; omega, hv.step hl hf h1⟩
    · rw [shF, if_neg h1] at h0; exact absurd h0 h1
theorem Cn_hi2 {t u : Nat} (k : Cn h t u) : Cn (uniG g h) (t + g.length) (u + g.length) := by
  induction k with
  | refl => exact .refl _
  | @step u f _ hu hf h0 ih =>
    have e := uni_hi (a := g) hu hf
    rw [shF, if_pos h0] at e
    have e1 : (fAt (uniG g h) (u + g.length) f).tet = (fAt h u f).tet + (g.length : Int) := by rw [e]
    have := ih.step (f := f) (by rw [uni_len]; omega) hf (by rw [e1]; omega)
    rwa [e1, show ((fAt h u f).tet + (g.length : Int)).toNat = (fAt h u f).tet.toNat + g.length by omega] at this
theorem uni_pn (hg : okG g = true) (hh : okG h = true) (hl : g.length + h.length ≤ 1000) : pn (uniG g h) = pn g + pn h := by
  have hU := uni_okG hg hh hl
  have hn : (uniG g h).length = g.length + h.length := uni_len g h
  have rU : ∀ i, ∃ t, i < pn (uniG g h) → t < g.length + h.length ∧ lb (uniG g h) t = i := fun i => by
    by_cases hi : i < pn (uniG g h)
    · obtain ⟨t, ht, e⟩ := lb_onto hU hi; exact ⟨t, fun _ => ⟨by omega, e⟩⟩
    · exact ⟨0, fun k => absurd k hi⟩
  have rg : ∀ i, ∃ t, i < pn g → t < g.length ∧ lb g t = i := fun i => by
    by_cases hi : i < pn g
    · obtain ⟨t, ht, e⟩ := lb_onto hg hi; exact ⟨t, fun _ => ⟨ht, e⟩⟩
    · exact ⟨0, fun k => absurd k hi⟩
  have rh : ∀ i, ∃ t, i < pn h → t < h.length ∧ lb h t = i := fun i => by
    by_cases hi : i < pn h
    · obtain ⟨t, ht, e⟩ := lb_onto hh hi; exact ⟨t, fun _ => ⟨ht, e⟩⟩
    · exact ⟨0, fun k => absurd k hi⟩
  obtain ⟨A, hA⟩ := Classical.axiomOfChoice rU
  obtain ⟨G, hG⟩ := Classical.axiomOfChoice rg
  obtain ⟨H, hH⟩ := Classical.axiomOfChoice rh
  apply Nat.le_antisymm
  · refine inj_le (f := fun i => if A i < g.length then lb g (A i) else pn g + lb h (A i - g.length)) (fun i hi => ?_) (fun i j hi hj e => ?_)
    · obtain ⟨h1, _⟩ := hA i hi
      by_cases c : A i < g.length
      · have := lb_lt hg c; simp only [c, if_true]; omega
      · have := lb_lt hh (show A i - g.length < h.length by omega); simp only [c, if_false]; omega
    · obtain ⟨h1, e1⟩ := hA i hi
      obtain ⟨h2, e2⟩ := hA j hj
      rw [← e1, ← e2]
      by_cases c : A i < g.length <;> by_cases d : A j < g.length
      · simp only [c, d, if_true] at e
        exact (lb_iff hU (by omega) (by omega)).2 (Cn_lo2 ((lb_iff hg c d).1 e))
      · have := lb_lt hg c; simp only [c, d, if_true, if_false] at e; omega
      · have := lb_lt hg d; simp only [c, d, if_true, if_false] at e; omega
      · simp only [c, d, if_false] at e
        have k := Cn_hi2 (g := g) ((lb_iff hh (show A i - g.length < h.length by omega) (show A j - g.length < h.length by omega)).1 (by omega))
        rw [Nat.sub_add_cancel (by omega), Nat.sub_add_cancel (by omega)] at k
        exact (lb_iff hU (by omega) (by omega)).2 k
  · refine inj_le (f := fun i => if i < pn g then lb (uniG g h) (G i) else lb (uniG g h) (H (i - pn g) + g.length)) (fun i hi => ?_) (fun i j hi hj e => ?_)
    · by_cases c : i < pn g
      · obtain ⟨h1, _⟩ := hG i c
        simp only [c, if_true]; exact lb_lt hU (by omega)
      · obtain ⟨h1, _⟩ := hH (i - pn g) (by omega)
        simp only [c, if_false]; exact lb_lt hU (by omega)
    · by_cases c : i < pn g <;> by_cases d : j < pn g
      · obtain ⟨h1, e1⟩ := hG i c
        obtain ⟨h2, e2⟩ := hG j d
        simp only [c, d, if_true] at e
        rw [← e1, ← e2]
        exact (lb_iff hg h1 h2).2 (Cn_lo1 hg h1 ((lb_iff hU (by omega) (by omega)).1 e))
      · obtain ⟨h1, e1⟩ := hG i c
        obtain ⟨h2, e2⟩ := hH (j - pn g) (by omega)
        simp only [c, d, if_true, if_false] at e
        have k := (Cn_lo1 hg h1 ((lb_iff hU (by omega) (by omega)).1 e)).lt hg h1
        omega
      · obtain ⟨h1, e1⟩ := hH (i - pn g) (by omega)
        obtain ⟨h2, e2⟩ := hG j d
        simp only [c, d, if_true, if_false] at e
        have k := (Cn_lo1 hg h2 ((lb_iff hU (by omega) (by omega)).1 e.symm)).lt hg h2
        omega
      · obtain ⟨h1, e1⟩ := hH (i - pn g) (by omega)
        obtain ⟨h2, e2⟩ := hH (j - pn g) (by omega)
        simp only [c, d, if_false] at e
        obtain ⟨v, ev, k⟩ := Cn_hi1 hh h1 ((lb_iff hU (by omega) (by omega)).1 e)
        have ev : H (j - pn g) = v := by omega
        rw [← ev] at k
        have := (lb_iff hh h1 h2).2 k
        omega
theorem uni_partsN (hg : okG g = true) (hh : okG h = true) (hl : g.length + h.length ≤ 1000) : partsN (uniG g h) = partsN g + partsN h := by
  have e := uni_pn hg hh hl
  have h1 := (pAll_ok (uni_okG hg hh hl) (uniG g h).length (Nat.le_refl _)).2.1
  have h2 := (pAll_ok hg g.length (Nat.le_refl _)).2.1
  have h3 := (pAll_ok hh h.length (Nat.le_refl _)).2.1
  have h1 : 0 ≤ partsN (uniG g h) := h1
  have h2 : 0 ≤ partsN g := h2
  have h3 : 0 ≤ partsN h := h3
  rw [pn, pn, pn] at e
  omega
/-- A part of the first is a part of the union. -/
theorem lb_lo (hg : okG g = true) {v : Nat} (hv : v < g.length) : lb (uniG g h) v = lb g v := by rw [lb, parts_lo hg hv, lb]
theorem lb_hi (hg : okG g = true) (hh : okG h = true) (hl : g.length + h.length ≤ 1000) {v : Nat} (hv : v < h.length) : pn g ≤ lb (uniG g h) (v + g.length) := by
  have hU := uni_okG hg hh hl
  have hn : (uniG g h).length = g.length + h.length := uni_len g h
  apply Nat.le_of_not_lt
  intro k
  obtain ⟨t, ht, e⟩ := lb_onto hg k
  rw [← lb_lo (h := h) hg ht] at e
  have := (Cn_lo1 hg ht ((lb_iff hU (by omega) (by omega)).1 e)).lt hg ht
  omega
end
end Go.V
/- A part of the first of both is a part of the union. -/
namespace Go.V
open Go
theorem rankP_congr {l m : List Int} {k : Int} : ∀ t, t ≤ l.length → t ≤ m.length → (∀ i, i < t → l.getD i 0 = m.getD i 0) → rankP l k t = rankP m k t
  | 0, _, _, _ => by simp [rankP]
  | t + 1, h1, h2, h => by
    rw [rankP_succ (by omega), rankP_succ (by omega), rankP_congr t (by omega) (by omega) (fun i hi => h i (by omega)), h t (by omega)]
theorem numM_congr {l m : List Int} {k : Int} {n : Nat} (h1 : n ≤ l.length) (h2 : n ≤ m.length) (h : ∀ i, i < n → l.getD i 0 = m.getD i 0) {x : Fc} (hx : 0 ≤ x.tet → x.tet.toNat < n) : numM l k x = numM m k x := by
  by_cases h0 : 0 ≤ x.tet
  · have hw := hx h0
    rw [numM_pos h0, numM_pos h0, numV, numV, h _ hw, rankP_congr x.tet.toNat (by omega) (by omega) (fun i hi => h i (by omega))]
  · rw [numM_neg h0, numM_neg h0]
section
variable {g h : Glu}
theorem tAt_lo {t : Nat} (ht : t < g.length) : tAt (uniG g h) t = tAt g t := tAt_eq (by rw [uniG, List.getElem?_append_left ht]; exact tAt_get ht)
theorem partL_congr (hg : okG g = true) {l m : List Int} {k : Int} (h1 : g.length ≤ l.length) (h2 : g.length ≤ m.length) (hlm : ∀ i, i < g.length → l.getD i 0 = m.getD i 0) : ∀ t, t ≤ g.length → partL (uniG g h) l k t = partL g m k t
  | 0, _ => rfl
  | t + 1, ht => by
    have ih := partL_congr hg (k := k) h1 h2 hlm t (by omega)
    have e : mapF (tAt (uniG g h) t) (numM l k) = mapF (tAt g t) (numM m k) := by
      rw [tAt_lo (by omega)]
      have q : ∀ f, f < 4 → numM l k (fAt g t f) = numM m k (fAt g t f) := fun f hf => numM_congr h1 h2 hlm fun h0 => okG_hi hg (by omega) hf h0
      have q0 : numM l k (tAt g t).f0 = numM m k (tAt g t).f0 := q 0 (by omega)
      have q1 : numM l k (tAt g t).f1 = numM m k (tAt g t).f1 := q 1 (by omega)
      have q2 : numM l k (tAt g t).f2 = numM m k (tAt g t).f2 := q 2 (by omega)
      have q3 : numM l k (tAt g t).f3 = numM m k (tAt g t).f3 := q 3 (by omega)
      rw [mapF, mapF, q0, q1, q2, q3]
    by_cases c : m.getD t 0 = k
    · rw [partL_yes c, partL_yes (by rw [hlm t (by omega)]; exact c), ih, e]
    · rw [partL_no c, partL_no (by rw [hlm t (by omega)]; exact c), ih]
theorem partL_stop {a : Glu} {l : List Int} {k : Int} {n : Nat} : ∀ d, (∀ i, n ≤ i → i < n + d → l.getD i 0 ≠ k) → partL a l k (n + d) = partL a l k n
  | 0, _ => rfl
  | d + 1, hd => by
    rw [← Nat.add_assoc, partL_no (hd (n + d) (by omega) (by omega))]
    exact partL_stop d fun i h1 h2 => hd i h1 (by omega)
theorem partM_lo (hg : okG g = true) (hh : okG h = true) (hl : g.length + h.length ≤ 1000) {k : Int} (hk : k < partsN g) : partM (uniG g h) k = partM g k := by
  have hU := uni_okG hg hh hl
  have hn : (uniG g h).length = g.length + h.length := uni_len g h
  have hlU := parts_len hU
  have hlg := parts_len hg
  rw [partM, partM, hn, partL_stop h.length fun i h1 h2 e => ?_]
  · exact partL_congr hg (by omega) (by omega) (fun i hi => parts_lo hg hi) g.length (Nat.le_refl _)
  · have hb := lb_hi hg hh hl (v := i - g.length) (by omega)
    rw [Nat.sub_add_cancel h1] at hb
    have hv := lb_val hU (t := i) (by omega)
    rw [e] at hv
    rw [pn] at hb
    omega
end
end Go.V
/- A part of a valid gluing is one. -/
namespace Go.V
open Go
section
variable {g : Glu} {l : List Int} {k : Int}
theorem partL_rk : ∀ t, t ≤ l.length → (partL g l k t).length = rankP l k t
  | 0, _ => by simp [partL, rankP]
  | t + 1, ht => by
    have ih := partL_rk t (by omega)
    rw [rankP_succ (by omega)]
    by_cases c : l.getD t 0 = k
    · rw [partL_yes c, List.length_append, ih, if_pos c]; rfl
    · rw [partL_no c, ih, if_neg c]; rfl
theorem partL_at : ∀ t, t ≤ l.length → ∀ u, u < t → l.getD u 0 = k → (partL g l k t)[rankP l k u]? = some (mapF (tAt g u) (numM l k))
  | 0, _, _, hu, _ => absurd hu (Nat.not_lt_zero _)
  | t + 1, ht, u, hu, e => by
    have hr := partL_rk (g := g) (k := k) t (show t ≤ l.length by omega)
    rcases Nat.lt_or_ge u t with h1 | h1
    · have ih := partL_at t (by omega) u h1 e
      have hlt : rankP l k u < (partL g l k t).length := (List.getElem?_eq_some_iff.1 ih).1
      by_cases c : l.getD t 0 = k
      · rw [partL_yes c, List.getElem?_append_left hlt]; exact ih
      · rw [partL_no c]; exact ih
    · obtain rfl : u = t := by omega
      rw [partL_yes e, ← hr, List.getElem?_append_right (Nat.le_refl _), Nat.sub_self]; rfl
theorem rank_onto : ∀ t, t ≤ l.length → ∀ i, i < rankP l k t → ∃ u, u < t ∧ l.getD u 0 = k ∧ rankP l k u = i
  | 0, _, i, hi => by simp [rankP] at hi
  | t + 1, ht, i, hi => by
    rw [rankP_succ (by omega)] at hi
    by_cases c : l.getD t 0 = k
    · rw [if_pos c] at hi
      rcases Nat.lt_or_ge i (rankP l k t) with h1 | h1
      · obtain ⟨u, h2, h3⟩ := rank_onto t (by omega) i h1; exact ⟨u, by omega, h3⟩
      · exact ⟨t, by omega, c, by omega⟩
    · rw [if_neg c] at hi
      obtain ⟨u, h2, h3⟩ := rank_onto t (by omega) i (by omega); exact ⟨u, by omega, h3⟩
theorem rank_mono {t : Nat} : ∀ d, t + d ≤ l.length → rankP l k t ≤ rankP l k (t + d)
  | 0, _ => Nat.le_refl _
  | d + 1, h => by
    have := rank_mono (t := t) d (by omega)
    rw [← Nat.add_assoc, rankP_succ (by omega)]; omega
theorem rank_lt {t u : Nat} (hu : u ≤ l.length) (h : t < u) (e : l.getD t 0 = k) : rankP l k t < rankP l k u := by
  have h1 := rank_mono (l := l) (k := k) (t := t + 1) (u - (t + 1)) (by omega)
  rw [rankP_succ (by omega), if_pos e, show t + 1 + (u - (t + 1)) = u by omega] at h1
  omega
theorem rank_inj {t u : Nat} (ht : t ≤ l.length) (hu : u ≤ l.length) (et : l.getD t 0 = k) (eu : l.getD u 0 = k) (h : rankP l k t = rankP l k u) : t = u := by
  rcases Nat.lt_trichotomy t u with c | c | c
  · have := rank_lt hu c et; omega
  · exact c
  · have := rank_lt ht c eu; omega
end
theorem part_at {g : Glu} (hg : okG g = true) {k : Int} {u f : Nat} (hu : u < g.length) (hf : f < 4) (e : (partsOf g).getD u 0 = k) : fAt (partM g k) (rankP (partsOf g) k u) f = numM (partsOf g) k (fAt g u f) := by
  have hl := parts_len hg
  have := tAt_eq (partL_at (g := g) (k := k) g.length (by omega) u hu e)
  rw [fAt, partM, this, mapF_at _ _ hf]; rfl
theorem part_okG {g : Glu} (hg : okG g = true) (hl1 : g.length ≤ 1000) {k : Int} : okG (partM g k) = true := by
  have hl := parts_len hg
  have hlen : (partM g k).length = rankP (partsOf g) k g.length := partL_rk g.length (by omega)
  refine okG_of (by have := partL_len (g := g) (l := partsOf g) (k := k) g.length; show (partL g _ _ _).length ≤ _; omega) fun i f hi hf => faceOk_iff.2 ?_
  obtain ⟨u, hu, e, rfl⟩ := rank_onto (l := partsOf g) (k := k) g.length (by omega) i (by omega)
  have ea := part_at hg hu hf e
  by_cases h0 : (fAt g u f).tet < 0
  · refine .inl ?_
    rw [ea, numM_neg (by omega), okG_free hg hu hf h0]
  · have h0 : 0 ≤ (fAt g u f).tet := by omega
    have hF := okG_glued hg hu hf h0
    have hw := okG_hi hg hu hf h0
    have hp := okP_at hF.ok f
    have ew : (partsOf g).getD (fAt g u f).tet.toNat 0 = k := by
      rw [← e]; exact ((parts_iff hg hu hw).2 (Cn.step (.refl u) hu hf h0)).symm
    have eb := part_at hg hw (f := ((fAt g u f).p.at f).toNat) (by omega) ew
    have en : numV (partsOf g) k (fAt g u f).tet = rankP (partsOf g) k (fAt g u f).tet.toNat := by rw [numV, if_pos ew]
    have elt : rankP (partsOf g) k (fAt g u f).tet.toNat < (partM g k).length := (List.getElem?_eq_some_iff.1 (partL_at (g := g) (k := k) g.length (by omega) _ hw ew)).1
    rw [numM_pos h0, en] at ea
    rw [hF.back, numM_pos (by show 0 ≤ (u : Int); omega), numV] at eb
    simp only [Int.toNat_natCast, e, if_true] at eb
    refine .inr ⟨by rw [ea]; show (0 : Int) ≤ (_ : Nat); omega, by rw [ea]; show ((_ : Nat) : Int) < _; omega, by rw [ea]; exact hF.ok, fun q => ?_, ?_⟩
    · rw [ea] at q
      have q1 : ((rankP (partsOf g) k (fAt g u f).tet.toNat : Nat) : Int) = (rankP (partsOf g) k u : Nat) := q.1
      have q2 := rank_inj (by omega) (by omega) ew e (by omega)
      exact hF.ne ⟨by omega, q.2⟩
    · rw [ea]
      show fAt (partM g k) ((rankP (partsOf g) k (fAt g u f).tet.toNat : Nat) : Int).toNat _ = _
      rw [Int.toNat_natCast]; exact eb
end Go.V
/- Parts and unions keep what is in them. -/
namespace Go.V
open Go
theorem id_glue {p : P4} (h : okP p = true) : compP p (compP idP (invP p)) = idP := of_decide_eq_true (all24 (Q := fun p => decide (compP p (compP idP (invP p)) = idP)) (by decide +kernel) h)
theorem idP_at : ∀ f, f < 4 → (idP.at f).toNat = f
  | 0, _ => rfl
  | 1, _ => rfl
  | 2, _ => rfl
  | 3, _ => rfl
  | n + 4, h => by omega
theorem iso_lo {g h : Glu} (hg : okG g = true) {t : Nat} (ht : t < g.length) : Mt g (uniG g h) t t (fun v => v) (fun _ => idP) where
  root := rfl
  rng v hv := by
    have := hv.lt hg ht
    exact ⟨by rw [uni_len]; omega, by decide⟩
  inj _ _ _ _ e := e
  free v f hv hf := by
    have := hv.lt hg ht
    show _ ↔ (fAt (uniG g h) v (idP.at f).toNat).tet < 0
    rw [idP_at f hf, uniG_lo this]
  glue v f hv hf h0 := by
    have := hv.lt hg ht
    show (fAt (uniG g h) v (idP.at f).toNat).tet = _ ∧ idP = compP (fAt (uniG g h) v (idP.at f).toNat).p _
    rw [idP_at f hf, uniG_lo this, id_glue (okG_glued hg this hf h0).ok]
    exact ⟨by show _ = ((fAt g v f).tet.toNat : Int); omega, rfl⟩
theorem iso_hi {g h : Glu} (hh : okG h = true) {t : Nat} (ht : t < h.length) : Mt h (uniG g h) t (t + g.length) (fun v => v + g.length) (fun _ => idP) where
  root := rfl
  rng v hv := by
    have := hv.lt hh ht
    exact ⟨by rw [uni_len]; show v + _ < _; omega, by decide⟩
  inj v v' _ _ e := by have e : v + g.length = v' + g.length := e; omega
  free v f hv hf := by
    have := hv.lt hh ht
    show _ ↔ (fAt (uniG g h) (v + g.length) (idP.at f).toNat).tet < 0
    rw [idP_at f hf, uni_hi this hf, shF]
    split
    · constructor <;> intro k
      · omega
      · have k : (fAt h v f).tet + (g.length : Int) < 0 := k; omega
    · exact Iff.rfl
  glue v f hv hf h0 := by
    have := hv.lt hh ht
    show (fAt (uniG g h) (v + g.length) (idP.at f).toNat).tet = _ ∧ idP = compP (fAt (uniG g h) (v + g.length) (idP.at f).toNat).p _
    rw [idP_at f hf, uni_hi this hf, shF, if_pos h0]
    refine ⟨by show (fAt h v f).tet + (g.length : Int) = (((fAt h v f).tet.toNat + g.length : Nat) : Int); omega, ?_⟩
    show idP = compP (fAt h v f).p _
    rw [id_glue (okG_glued hh this hf h0).ok]
theorem iso_part {g : Glu} (hg : okG g = true) {t : Nat} (ht : t < g.length) {k : Int} (e : (partsOf g).getD t 0 = k) : Mt g (partM g k) t (rankP (partsOf g) k t) (fun v => rankP (partsOf g) k v) (fun _ => idP) where
  root := rfl
  rng v hv := by
    have hl := parts_len hg
    have h1 := hv.lt hg ht
    have e1 : (partsOf g).getD v 0 = k := by rw [← e]; exact ((parts_iff hg ht h1).2 hv).symm
    exact ⟨(List.getElem?_eq_some_iff.1 (partL_at (g := g) (k := k) g.length (by omega) v h1 e1)).1, by decide⟩
  inj v v' hv hv' q := by
    have hl := parts_len hg
    have h1 := hv.lt hg ht
    have h2 := hv'.lt hg ht
    have e1 : (partsOf g).getD v 0 = k := by rw [← e]; exact ((parts_iff hg ht h1).2 hv).symm
    have e2 : (partsOf g).getD v' 0 = k := by rw [← e]; exact ((parts_iff hg ht h2).2 hv').symm
    exact rank_inj (by omega) (by omega) e1 e2 q
  free v f hv hf := by
    have h1 := hv.lt hg ht
    have e1 : (partsOf g).getD v 0 = k := by rw [← e]; exact ((parts_iff hg ht h1).2 hv).symm
    show _ ↔ (fAt (partM g k) (rankP (partsOf g) k v) (idP.at f).toNat).tet < 0
    rw [idP_at f hf, part_at hg h1 hf e1]
    by_cases h0 : 0 ≤ (fAt g v f).tet
    · have hw := okG_hi hg h1 hf h0
      have ew : (partsOf g).getD (fAt g v f).tet.toNat 0 = k := by rw [← e1]; exact ((parts_iff hg h1 hw).2 (Cn.step (.refl v) h1 hf h0)).symm
      rw [numM_pos h0, numV, if_pos ew]
      constructor <;> intro q
      · omega
      · have q : ((rankP (partsOf g) k (fAt g v f).tet.toNat : Nat) : Int) < 0 := q; omega
    · rw [numM_neg h0]
  glue v f hv hf h0 := by
    have h1 := hv.lt hg ht
    have e1 : (partsOf g).getD v 0 = k := by rw [← e]; exact ((parts_iff hg ht h1).2 hv).symm
    have hw := okG_hi hg h1 hf h0
    have ew : (partsOf g).getD (fAt g v f).tet.toNat 0 = k := by rw [← e1]; exact ((parts_iff hg h1 hw).2 (Cn.step (.refl v) h1 hf h0)).symm
    show (fAt (partM g k) (rankP (partsOf g) k v) (idP.at f).toNat).tet = _ ∧ idP = compP (fAt (partM g k) (rankP (partsOf g) k v) (idP.at f).toNat).p _
    rw [idP_at f hf, part_at hg h1 hf e1, numM_pos h0, numV, if_pos ew]
    refine ⟨rfl, ?_⟩
    show idP = compP (fAt g v f).p _
    rw [id_glue (okG_glued hg h1 hf h0).ok]
end Go.V
/- The union of all parts. -/
namespace Go.V
open Go
def unT (g : Glu) : Nat → Glu
  | 0 => []
  | K + 1 => uniG (unT g K) (partM g K)
def cntP (l : List Int) (K : Nat) : Nat := (l.filter fun x => decide (x < (K : Int))).length
theorem cntP_succ (K : Nat) : ∀ (l : List Int), cntP l (K + 1) = cntP l K + (l.filter fun x => decide (x = (K : Int))).length
  | [] => rfl
  | x :: l => by
    have ih := cntP_succ K l
    simp only [cntP, List.filter_cons] at ih ⊢
    by_cases h1 : x < (K : Int)
    · have h2 : x < ((K + 1 : Nat) : Int) := by omega
      have h3 : ¬ x = (K : Int) := by omega
      simp only [h1, h2, h3, decide_true, decide_false, if_true, if_false, List.length_cons, Bool.false_eq_true]; omega
    · by_cases h3 : x = (K : Int)
      · have h2 : x < ((K + 1 : Nat) : Int) := by omega
        simp only [h1, h2, decide_eq_true h3, decide_true, decide_false, if_true, if_false, List.length_cons, Bool.false_eq_true]; omega
      · have h2 : ¬ x < ((K + 1 : Nat) : Int) := by omega
        simp only [h1, h2, h3, decide_false, if_false, Bool.false_eq_true]; omega
theorem part_pn {g : Glu} (hg : okG g = true) (h1 : g.length ≤ 1000) {k : Nat} (hk : k < pn g) : pn (partM g k) = 1 := by
  obtain ⟨t, ht, e⟩ := lb_onto hg hk
  have hl := parts_len hg
  have e' : (partsOf g).getD t 0 = (k : Int) := by rw [lb_val hg ht, e]
  have hm := iso_part hg ht e'
  have hP : okG (partM g k) = true := part_okG hg h1
  have h0 := (hm.rng t (.refl t)).1
  have hlen : (partM g k).length = rankP (partsOf g) k g.length := partL_rk g.length (by omega)
  have all : ∀ v, v < (partM g k).length → lb (partM g k) v = lb (partM g k) (rankP (partsOf g) k t) := fun v hv => by
    obtain ⟨u, hu, eu, rfl⟩ := rank_onto (l := partsOf g) (k := (k : Int)) g.length (by omega) v (by omega)
    exact ((lb_iff hP h0 hv).2 (hm.image ((parts_iff hg ht hu).1 (by rw [e', eu])))).symm
  have h2 := lb_lt hP h0
  refine Nat.le_antisymm (inj_le (n := 1) (f := fun _ => 0) (fun _ _ => Nat.one_pos) fun i j hi hj _ => ?_) (by omega)
  obtain ⟨a, ha, ea⟩ := lb_onto hP hi
  obtain ⟨b, hb, eb⟩ := lb_onto hP hj
  rw [← ea, ← eb, all a ha, all b hb]
structure UJ (g : Glu) (K : Nat) : Prop where
  ok : okG (unT g K) = true
  len : (unT g K).length = cntP (partsOf g) K
  n : pn (unT g K) = K
  iso : ∀ k, k < K → IsoP g (unT g K) k k
theorem un_J {g : Glu} (hg : okG g = true) (h1 : g.length ≤ 1000) : ∀ K, K ≤ pn g → UJ g K
  | 0, _ => by
    refine ⟨show okG [] = true by decide, ?_, show pn [] = 0 by decide, fun k hk => absurd hk (Nat.not_lt_zero _)⟩
    rw [cntP, List.filter_eq_nil_iff.2 fun x hx => ?_]; rfl
    obtain ⟨i, hi, rfl⟩ := List.getElem_of_mem hx
    have := (parts_rng hg (t := i) (by rw [← parts_len hg]; exact hi)).1
    rw [List.getD_eq_getElem?_getD, List.getElem?_eq_getElem hi] at this
    have this : 0 ≤ (partsOf g)[i] := this
    simp; omega
  | K + 1, hK => by
    have ih := un_J hg h1 K (by omega)
    have hl := parts_len hg
    have hP : okG (partM g K) = true := part_okG hg h1
    have hlen : (partM g K).length = rankP (partsOf g) K g.length := partL_rk g.length (by omega)
    have hr : rankP (partsOf g) K g.length = ((partsOf g).filter fun x => decide (x = (K : Int))).length := by rw [rankP, ← hl, List.take_length]
    have hc := cntP_succ K (partsOf g)
    have hle : cntP (partsOf g) (K + 1) ≤ (partsOf g).length := List.length_filter_le _ _
    have hsum : (unT g K).length + (partM g K).length ≤ 1000 := by rw [ih.len, hlen, hr]; omega
    have hU := uni_okG ih.ok hP hsum
    have hn : pn (uniG (unT g K) (partM g K)) = K + 1 := by rw [uni_pn ih.ok hP hsum, ih.n, part_pn hg h1 (by omega)]
    refine ⟨hU, by rw [unT, uni_len, ih.len, hlen, hr, hc], hn, fun k hk => ?_⟩
    rcases Nat.lt_or_ge k K with h | h
    · obtain ⟨t, u, ht, hu, et, eu, q⟩ := ih.iso k h
      refine ⟨t, u, ht, by rw [unT, uni_len]; omega, et, by rw [unT, lb_lo ih.ok hu, eu], ?_⟩
      exact Iso.trans hg ih.ok ht hu q ⟨_, _, iso_lo ih.ok hu⟩
    · obtain rfl : k = K := by omega
      obtain ⟨t, ht, et⟩ := lb_onto hg (show k < pn g by omega)
      have e' : (partsOf g).getD t 0 = (k : Int) := by rw [lb_val hg ht, et]
      have hm := iso_part hg ht e'
      have h0 := (hm.rng t (.refl t)).1
      have hb := lb_hi ih.ok hP hsum h0
      have hlt := lb_lt hU (t := rankP (partsOf g) k t + (unT g k).length) (by rw [uni_len]; omega)
      refine ⟨t, rankP (partsOf g) k t + (unT g k).length, ht, by rw [unT, uni_len]; omega, et, ?_, ?_⟩
      · rw [unT]; rw [hn] at hlt; rw [ih.n] at hb; omega
      · exact Iso.trans hg hP ht h0 ⟨_, _, hm⟩ ⟨_, _, iso_hi hP h0⟩
end Go.V
/- Renumbering twice, and back. -/
namespace Go.V
open Go
theorem mtTo_iff' {xs : List Int} {n : Nat} (h : ∀ i, i < n → 0 ≤ xs.getD i 0 ∧ xs.getD i 0 < n) : ∀ i, i ≤ n → ∀ k, k < n → ((mtTo xs n i).getD k false = true ↔ ∃ j, j < i ∧ (xs.getD j 0).toNat = k)
  | 0, _, k, hk => by simp [mtTo, List.getD_eq_getElem?_getD, hk]
  | i + 1, hi, k, hk => by
    have hb := h i (by omega)
    rw [mtTo]
    by_cases e : (xs.getD i 0).toNat = k
    · subst e
      rw [getB_set_self (by rw [mtTo_len]; omega)]
      exact ⟨fun _ => ⟨i, by omega, rfl⟩, fun _ => rfl⟩
    · rw [getB_set_ne e, mtTo_iff' h i (by omega) k hk]
      exact ⟨fun ⟨j, hj, e2⟩ => ⟨j, by omega, e2⟩, fun ⟨j, hj, e2⟩ => by
        rcases Nat.lt_or_ge j i with h1 | h1
        · exact ⟨j, h1, e2⟩
        · obtain rfl : j = i := by omega
          exact absurd e2 e⟩
theorem ord_of {xs : List Int} {n : Nat} (h : ∀ i, i < n → 0 ≤ xs.getD i 0 ∧ xs.getD i 0 < n) (hi : ∀ i j, i < n → j < n → (xs.getD i 0).toNat = (xs.getD j 0).toNat → i = j) : ordTo xs n n = true := by
  have key : ∀ k, k ≤ n → ordTo xs n k = true := by
    intro k
    induction k with
    | zero => exact fun _ => rfl
    | succ k ih =>
      intro hk
      have hb := h k (by omega)
      rw [ordTo, ih (by omega)]
      cases hm : (mtTo xs n k).getD (xs.getD k 0).toNat false
      · rw [decide_eq_true hb]; rfl
      · obtain ⟨j, hj, e⟩ := (mtTo_iff' h k (by omega) _ (by omega)).1 hm
        have := hi j k (by omega) (by omega) e; omega
  exact key n (Nat.le_refl _)
theorem OrdF.of {xs : List Int} {n : Nat} {Z E : Nat → Nat} (hv : ∀ i, i < n → xs.getD i 0 = (Z i : Int)) (hz : ∀ i, i < n → Z i < n) (he : ∀ t, t < n → E t < n ∧ Z (E t) = t) (hez : ∀ i, i < n → E (Z i) = i) : ordTo xs n n = true ∧ OrdF xs n Z E := by
  have ho : ordTo xs n n = true := ord_of (fun i hi => by rw [hv i hi]; have := hz i hi; omega) (fun i j hi hj e => by
    rw [hv i hi, hv j hj] at e
    rw [← hez i hi, ← hez j hj, show Z i = Z j by simpa using e])
  refine ⟨ho, hv, hz, fun t ht => ?_, fun t ht => (he t ht).1, fun t ht => (he t ht).2, hez⟩
  have hF := ord_F ho
  have h1 := hF.bk t ht
  have h2 := hF.xb t ht
  have h3 := hF.blt t ht
  rw [h1]
  generalize (bkI xs n (t : Int)).toNat = k at h2 h3 ⊢
  have h2 : (xs.getD k 0).toNat = t := h2
  rw [hv k h3] at h2
  have h2 : Z k = t := by simpa using h2
  show (k : Int) = E t
  rw [← h2, hez k h3]
section two
variable {g : Glu} {xs ys bs : List Int} {ps qs cs : List P4} {X B Y D : Nat → Nat}
end two
end Go.V
/- The lists that the statement on renumbering makes. -/
namespace Go.V
open Go
def bothTo (xs ys : List Int) (n i : Nat) : List Int := (List.range n).map fun j => if j < i then xs.getD (ys.getD j 0).toNat 0 else 0
def byTo (ps qs : List P4) (ys : List Int) (n i : Nat) : List P4 := (List.range n).map fun j => if j < i then compP (pAt ps (ys.getD j 0).toNat) (pAt qs j) else zP
def unTo (xs : List Int) (ps : List P4) (n : Nat) : Nat → List P4
  | 0 => List.replicate n zP
  | i + 1 => (unTo xs ps n i).set (xs.getD i 0).toNat (invP (pAt ps i))
@[simp] theorem bothTo_len (xs ys : List Int) (n i : Nat) : (bothTo xs ys n i).length = n := by simp [bothTo]
@[simp] theorem byTo_len (ps qs : List P4) (ys : List Int) (n i : Nat) : (byTo ps qs ys n i).length = n := by simp [byTo]
@[simp] theorem unTo_len (xs : List Int) (ps : List P4) (n : Nat) : ∀ i, (unTo xs ps n i).length = n
  | 0 => by simp [unTo]
  | i + 1 => by simp [unTo, unTo_len xs ps n i]
section fin
variable {xs ys : List Int} {ps qs : List P4} {n : Nat} {X B Y D : Nat → Nat}
end fin
end Go.V
/- The union of all parts is a renumbering. -/
namespace Go.V
open Go
theorem un_len {g : Glu} (hg : okG g = true) (h1 : g.length ≤ 1000) : (unT g (pn g)).length = g.length := by
  have h := un_J hg h1 (pn g) (Nat.le_refl _)
  have hl := parts_len hg
  rw [h.len, cntP, List.filter_eq_self.2 fun x hx => ?_, hl]
  obtain ⟨i, hi, rfl⟩ := List.getElem_of_mem hx
  have hv := lb_val hg (t := i) (by omega)
  have hlt := lb_lt hg (t := i) (by omega)
  rw [List.getD_eq_getElem?_getD, List.getElem?_eq_getElem hi] at hv
  have hv : (partsOf g)[i] = (lb g i : Int) := hv
  rw [hv]; simp; omega
/-- Every union on the way is within the bounds. -/
theorem un_le {g : Glu} (hg : okG g = true) (h1 : g.length ≤ 1000) {K : Nat} (hK : K ≤ pn g) : (unT g K).length ≤ g.length := by
  rw [(un_J hg h1 K hK).len, ← parts_len hg]; exact List.length_filter_le _ _
/-- What the reference's search answers. -/
theorem un_rn {g : Glu} (hg : okG g = true) (h1 : g.length ≤ 1000) : (rnT nthP (unT g (pn g)) g (partsOf (unT g (pn g))) (partsOf g) (unT g (pn g)).length).isSome = true := by
  have h := un_J hg h1 (pn g) (Nat.le_refl _)
  have hPB : PB (unT g (pn g)) g (fun i => i) (fun i => i) := ⟨fun i hi => ⟨by rw [h.n] at hi; exact hi, rfl⟩, fun r hr => ⟨by rw [h.n]; exact hr, rfl⟩, fun k hk => by
    rw [h.n] at hk
    obtain ⟨t, u, ht, hu, et, eu, q⟩ := h.iso k hk
    exact ⟨u, t, hu, ht, eu, et, Iso.symm hg h.ok ht hu q⟩⟩
  obtain ⟨used, _, _, he, _⟩ := rnT_go nth_all h.ok hg (by rw [un_len hg h1]; exact Nat.le_refl _) hPB (unT g (pn g)).length (Nat.le_refl _)
  rw [he]; rfl
end Go.V
/- The statement GlueParts: the walk. -/
namespace Go.Proofs
open Go Go.V
set_option maxRecDepth 20000
theorem partM_le (g : Glu) (k : Int) : (partM g k).length ≤ g.length := partL_len (g := g) (l := partsOf g) (k := k) g.length

theorem lw_GlueParts (gb : Option Addr) (GA : Addr) (gc : Nat) (g : Glu) (hb : Option Addr) (HA : Addr) (hc : Nat) (h : Glu) (w : World) (he : Env w) (hg : GluAt w gb GA g) (hh : GluAt w hb HA h) : Gives Tryz.prog 6 #[gluV gb gc g, gluV hb hc h] w Nil (fun _ : Unit => True) (fun _ => .bool true) (fun _ => []) := by
  refine fn_of_run (S := Nil) (args := [gluV gb gc g, gluV hb hc h]) (n := 149) (L := []) Tryz.func6 rfl Tryz.ntmps6 (Nat.le_of_ble_eq_true rfl) (Sym.nil _ _) ?_
  change RunC _ _ _ [(0, _), (1, _)] _
  refine RunC.seq ?_
  refine RunC.region ?_
  refine RunL.grows rfl rfl rfl (Grows.box rfl rfl) (fun b2 _ => ?_)
  refine RunL.grows rfl rfl rfl (Grows.box rfl rfl) (fun b3 _ => ?_)
  refine RunL.still rfl rfl rfl (Still.assign rfl rfl) ?_
  refine RunL.nil ?_
  refine Ends.then ?_
  refine RunC.seq ?_
  refine RunC.seq ?_
  refine RunC.region ?_
  refine RunL.grows rfl rfl rfl (Grows.call (vs := #[]) rfl rfl Tryz.call9 (fun w hs => lw_sane w (he.sym hs))) (fun _ _ => ?_)
  refine RunL.still rfl rfl rfl (Still.not rfl rfl) ?_
  refine RunL.again (t := 24) (u := .bool false) rfl (rfl) ?_
  refine RunL.nil ?_
  refine Ends.then ?_
  refine RunC.cond_false rfl ?_
  refine RunC.skip ?_
  refine Ends.then ?_
  refine RunC.seq ?_
  refine RunC.seq ?_
  refine RunC.region ?_
  refine RunL.still rfl rfl rfl (Still.fieldAddrL (off := 0) (off' := 0) rfl rfl Tryz.underlying24 rfl Tryz.sizeOf22 rfl) ?_
  refine RunL.still rfl rfl rfl (Still.load rfl rfl Tryz.isAgg22 (fun _ hs => cell_nth (hs.at (i := 1) rfl) rfl)) ?_
  refine RunL.still rfl rfl rfl (Still.lenSlice rfl rfl Tryz.underlying22) ?_
  refine RunL.still rfl rfl rfl (Still.gtr rfl rfl rfl) ?_
  refine RunL.still rfl rfl rfl (Still.move rfl rfl) ?_
  refine RunL.split (t := 29) rfl (fun h29 => ?_) (fun h29 => ?_)
  · skip
    refine RunL.off rfl rfl rfl ?_
    refine RunL.off rfl rfl rfl ?_
    refine RunL.off rfl rfl rfl ?_
    refine RunL.off rfl rfl rfl ?_
    refine RunL.still rfl rfl rfl (Still.pickT rfl rfl rfl) ?_
    refine RunL.still rfl rfl rfl (Still.move rfl rfl) ?_
    refine RunL.off rfl rfl rfl ?_
    refine RunL.off rfl rfl rfl ?_
    refine RunL.off rfl rfl rfl ?_
    refine RunL.still rfl rfl rfl (Still.pickT rfl rfl rfl) ?_
    refine RunL.still rfl rfl rfl (Still.move rfl rfl) ?_
    refine RunL.off rfl rfl rfl ?_
    refine RunL.off rfl rfl rfl ?_
    refine RunL.off rfl rfl rfl ?_
    refine RunL.still rfl rfl rfl (Still.pickT rfl rfl rfl) ?_
    refine RunL.nil ?_
    refine Ends.then ?_
    refine RunC.cond_true rfl ?_
    refine RunC.seq ?_
    refine RunC.region ?_
    refine RunL.still rfl rfl rfl (Still.assign rfl rfl) ?_
    refine RunL.nil ?_
    refine Ends.then ?_
    refine RunC.ret ?_
    refine Ends.then_ret ?_
    refine Ends.leave (.inl rfl) (fun _ _ ok => results1 Tryz.results6 (Holds.tmp rfl) ok) (fun w1 hs => ?_)
    exact Ret.intro () trivial rfl (HSub.nil _) hs
  · have hgl : g.length ≤ 6 := by have h29 := of_decide_eq_false h29; omega
    refine RunL.still rfl rfl rfl (Still.fieldAddrL (off := 0) (off' := 0) rfl rfl Tryz.underlying24 rfl Tryz.sizeOf22 rfl) ?_
    refine RunL.still rfl rfl rfl (Still.load rfl rfl Tryz.isAgg22 (fun _ hs => cell_nth (hs.at (i := 0) rfl) rfl)) ?_
    refine RunL.still rfl rfl rfl (Still.lenSlice rfl rfl Tryz.underlying22) ?_
    refine RunL.still rfl rfl rfl (Still.gtr rfl rfl rfl) ?_
    refine RunL.still rfl rfl rfl (Still.pickF rfl rfl rfl) ?_
    refine RunL.still rfl rfl rfl (Still.move rfl rfl) ?_
    refine RunL.split (t := 35) rfl (fun h35 => ?_) (fun h35 => ?_)
    · skip
      refine RunL.off rfl rfl rfl ?_
      refine RunL.off rfl rfl rfl ?_
      refine RunL.off rfl rfl rfl ?_
      refine RunL.still rfl rfl rfl (Still.pickT rfl rfl rfl) ?_
      refine RunL.still rfl rfl rfl (Still.move rfl rfl) ?_
      refine RunL.off rfl rfl rfl ?_
      refine RunL.off rfl rfl rfl ?_
      refine RunL.off rfl rfl rfl ?_
      refine RunL.still rfl rfl rfl (Still.pickT rfl rfl rfl) ?_
      refine RunL.nil ?_
      refine Ends.then ?_
      refine RunC.cond_true rfl ?_
      refine RunC.seq ?_
      refine RunC.region ?_
      refine RunL.still rfl rfl rfl (Still.assign rfl rfl) ?_
      refine RunL.nil ?_
      refine Ends.then ?_
      refine RunC.ret ?_
      refine Ends.then_ret ?_
      refine Ends.leave (.inl rfl) (fun _ _ ok => results1 Tryz.results6 (Holds.tmp rfl) ok) (fun w2 hs => ?_)
      exact Ret.intro () trivial rfl (HSub.nil _) hs
    · have hhl : h.length ≤ 6 := by have h35 := of_decide_eq_false h35; omega
      refine RunL.still rfl rfl rfl (Still.loads rfl rfl Tryz.isAgg24 Tryz.sizeOf24 (vs := [_]) rfl (fun _ hs => cells_nth (hs.at (i := 1) rfl) ⟨rfl, trivial⟩)) ?_
      refine RunL.grows rfl rfl rfl (Grows.call (vs := #[_]) rfl rfl Tryz.call11 (fun w hs => rf_Check gb GA gc g w (hg.sym hs))) (fun _ _ => ?_)
      refine RunL.still rfl rfl rfl (Still.neq rfl rfl rfl) ?_
      refine RunL.still rfl rfl rfl (Still.pickF rfl rfl rfl) ?_
      refine RunL.still rfl rfl rfl (Still.move rfl rfl) ?_
      refine RunL.split (t := 40) rfl (fun h40 => ?_) (fun h40 => ?_)
      · skip
        refine RunL.off rfl rfl rfl ?_
        refine RunL.off rfl rfl rfl ?_
        refine RunL.off rfl rfl rfl ?_
        refine RunL.still rfl rfl rfl (Still.pickT rfl rfl rfl) ?_
        refine RunL.nil ?_
        refine Ends.then ?_
        refine RunC.cond_true rfl ?_
        refine RunC.seq ?_
        refine RunC.region ?_
        refine RunL.still rfl rfl rfl (Still.assign rfl rfl) ?_
        refine RunL.nil ?_
        refine Ends.then ?_
        refine RunC.ret ?_
        refine Ends.then_ret ?_
        refine Ends.leave (.inl rfl) (fun _ _ ok => results1 Tryz.results6 (Holds.tmp rfl) ok) (fun w3 hs => ?_)
        exact Ret.intro () trivial rfl (HSub.nil _) hs
      · have hokg : okG g = true := by by_cases k : okG g = true; exact k; exact absurd (chkG_bad (by simpa using k)) (by have h40 := of_decide_eq_false h40; rw [Decidable.not_not.1 h40]; decide)
        refine RunL.still rfl rfl rfl (Still.loads rfl rfl Tryz.isAgg24 Tryz.sizeOf24 (vs := [_]) rfl (fun _ hs => cells_nth (hs.at (i := 0) rfl) ⟨rfl, trivial⟩)) ?_
        refine RunL.grows rfl rfl rfl (Grows.call (vs := #[_]) rfl rfl Tryz.call11 (fun w hs => rf_Check hb HA hc h w (hh.sym hs))) (fun _ _ => ?_)
        refine RunL.still rfl rfl rfl (Still.neq rfl rfl rfl) ?_
        refine RunL.still rfl rfl rfl (Still.pickF rfl rfl rfl) ?_
        refine RunL.nil ?_
        refine Ends.then ?_
        refine RunC.cond rfl (fun h44 => ?_) (fun h44 => ?_)
        · skip
          refine RunC.seq ?_
          refine RunC.region ?_
          refine RunL.still rfl rfl rfl (Still.assign rfl rfl) ?_
          refine RunL.nil ?_
          refine Ends.then ?_
          refine RunC.ret ?_
          refine Ends.then_ret ?_
          refine Ends.leave (.inl rfl) (fun _ _ ok => results1 Tryz.results6 (Holds.tmp rfl) ok) (fun w4 hs => ?_)
          exact Ret.intro () trivial rfl (HSub.nil _) hs
        · have hokh : okG h = true := by by_cases k : okG h = true; exact k; exact absurd (chkG_bad (by simpa using k)) (by have h44 := of_decide_eq_false h44; rw [Decidable.not_not.1 h44]; decide)
          have h1g : g.length ≤ 1000 := by omega
          have hplg := parts_len hokg
          have hokU := uni_okG hokg hokh (by omega)
          have hlU := uni_len g h
          have hN0 : 0 ≤ partsN g := (parts_A hokg).pos
          have hM0 : 0 ≤ partsN h := (parts_A hokh).pos
          have hN1 := partsN_le' hokg
          have hM1 := partsN_le' hokh
          have hpn : ((pn g : Nat) : Int) = partsN g := by rw [pn]; omega
          have hsum := uni_partsN hokg hokh (by omega)
          refine RunC.skip ?_
          refine Ends.then ?_
          refine RunC.seq ?_
          refine RunC.region ?_
          refine RunL.still rfl rfl rfl (Still.loads rfl rfl Tryz.isAgg24 Tryz.sizeOf24 (vs := [_]) rfl (fun _ hs => cells_nth (hs.at (i := 1) rfl) ⟨rfl, trivial⟩)) ?_
          refine RunL.grows rfl rfl rfl (Grows.call (vs := #[_]) rfl rfl Tryz.call16 (fun w hs => gl_Parts gb GA gc g w (hg.sym hs) hokg)) (fun pl _ => ?_)
          refine RunL.still rfl rfl rfl (Still.move rfl rfl) ?_
          refine RunL.still rfl rfl rfl (Still.extractN rfl rfl rfl) ?_
          refine RunL.still rfl rfl rfl (Still.extractN rfl rfl rfl) ?_
          refine RunL.still rfl rfl rfl (Still.assign rfl rfl) ?_
          refine RunL.still rfl rfl rfl (Still.assign rfl rfl) ?_
          refine RunL.nil ?_
          refine Ends.then ?_
          refine RunC.seq ?_
          refine RunC.seq ?_
          refine RunC.region ?_
          refine RunL.still rfl rfl rfl (Still.move rfl rfl) ?_
          refine RunL.still rfl rfl rfl (Still.neq rfl rfl rfl) ?_
          refine RunL.again (t := 51) (u := .bool false) rfl (rfl) ?_
          refine RunL.nil ?_
          refine Ends.then ?_
          refine RunC.cond_false rfl ?_
          refine RunC.skip ?_
          refine Ends.then ?_
          refine RunC.seq ?_
          refine RunC.region ?_
          refine RunL.grows rfl rfl rfl (Grows.alloc rfl Tryz.zeroValue24) (fun b7 _ => ?_)
          refine RunL.nil ?_
          refine Ends.then ?_
          refine RunC.seq ?_
          refine RunC.seq ?_
          refine RunC.own_nil 35 20 ?_
          refine RunC.region ?_
          refine RunL.still rfl rfl rfl (Still.assign rfl rfl) ?_
          refine RunL.nil ?_
          refine Ends.then ?_
          refine RunC.block ?_
          refine RunC.loop2 (γ := (Option Addr × Nat) × Nat) (keep := [(2, _), (3, _), (5, _), (7, _)]) (hkeep := [_, _, _]) (fun (q, k) => k ≤ pn g) (fun (q, k) => pn g - k) (fun (q, k) => [(8, iv k)]) (fun (q, k) => [HL.obj b7 (.cells #[.slice q.1 (unT g k).length q.2] 24 (0, 0)), ownG q (unT g k)]) ((none, 0), 0) (Nat.zero_le _) (Fr.Sub.cons rfl (Fr.Sub.nil _)) (Fr.Sub.cons rfl (Fr.Sub.cons rfl (Fr.Sub.cons rfl (Fr.Sub.cons rfl (Fr.Sub.nil _))))) (HSub.pick 1 rfl (HSub.pick 0 rfl (HSub.pick 0 rfl (HSub.pick 0 rfl (HSub.pick 0 rfl (HSub.nil _)))))) ?_
          rintro ⟨q, k⟩ hk
          have hk : k ≤ pn g := hk
          have hul := un_le hokg h1g hk
          have hJ := un_J hokg h1g k hk
          have hpm := partM_le g (k : Int)
          refine RunC.seq ?_
          refine RunC.seq ?_
          refine RunC.region ?_
          refine RunL.still rfl rfl rfl (Still.move rfl rfl) ?_
          refine RunL.still rfl rfl rfl (Still.move rfl rfl) ?_
          refine RunL.grows rfl rfl rfl (Grows.call (vs := #[_]) rfl rfl Tryz.call17 (fun w hs => lw_count_parts pl w hokg (hs.own (i := 2) rfl))) (fun _ _ => ?_)
          refine RunL.still rfl rfl rfl (Still.lss rfl rfl rfl) ?_
          refine RunL.nil ?_
          refine Ends.then ?_
          refine RunC.cond rfl (fun h55 => ?_) (fun h55 => ?_)
          · have h55 := of_decide_eq_true h55
            refine RunC.skip ?_
            refine Ends.then ?_
            refine RunC.seq ?_
            refine RunC.block ?_
            refine RunC.seq ?_
            refine RunC.region ?_
            refine RunL.still rfl rfl rfl (Still.loads rfl rfl Tryz.isAgg24 Tryz.sizeOf24 (vs := [_]) rfl (fun _ hs => cells_nth (hs.at (i := 4) rfl) ⟨rfl, trivial⟩)) ?_
            refine RunL.still rfl rfl rfl (Still.move rfl rfl) ?_
            refine RunL.grows rfl rfl rfl (Grows.call (vs := #[_, _]) rfl rfl Tryz.call33 (fun w hs => gl_Part gb GA gc g (k : Int) w (hg.sym hs) hokg ⟨by omega, h55⟩ hplg)) (fun q1 hq1 => ?_)
            refine RunL.still rfl rfl rfl (Still.move rfl rfl) ?_
            refine RunL.still rfl rfl rfl (Still.extractN rfl rfl rfl) ?_
            refine RunL.still rfl rfl rfl (Still.extractN rfl rfl rfl) ?_
            refine RunL.grows rfl rfl rfl (Grows.alloc rfl Tryz.zeroValue24) (fun b9 _ => ?_)
            refine RunL.does0 rfl rfl (Does.store rfl rfl rfl (i := 0) rfl Tryz.sizeOf24 rfl (rfl) rfl) (fun _ _ => ?_)
            refine RunL.conv (fun _ hs => hs.re 0 rfl (show _ = HL.obj b9 (.cells #[.slice q1.1 (partM g (k : Int)).length q1.2] 24 (0, 0)) from rfl)) ?_
            refine RunL.still rfl rfl rfl (Still.assign rfl rfl) ?_
            refine RunL.nil ?_
            refine Ends.then ?_
            refine RunC.seq ?_
            refine RunC.region ?_
            refine RunL.still rfl rfl rfl (Still.loads rfl rfl Tryz.isAgg24 Tryz.sizeOf24 (vs := [_]) rfl (fun _ hs => cells_nth (hs.at (i := 2) rfl) ⟨rfl, trivial⟩)) ?_
            refine RunL.still rfl rfl rfl (Still.loads rfl rfl Tryz.isAgg24 Tryz.sizeOf24 (vs := [_]) rfl (fun _ hs => cells_nth (hs.at (i := 0) rfl) ⟨rfl, trivial⟩)) ?_
            refine RunL.grows rfl rfl rfl (Grows.call (vs := #[_, _]) rfl rfl Tryz.call22 (fun w hs => gl_Union_ok q.1 _ q.2 (unT g k) q1.1 _ q1.2 (partM g (k : Int)) w (GluAt.of_ownG (q := q) (g := (unT g k)) (by omega) (hs.at (i := 3) rfl)) (GluAt.of_ownG (q := q1) (g := (partM g (k : Int))) (by omega) (hs.at (i := 1) rfl)) hJ.ok (part_okG hokg h1g) (by omega))) (fun q2 hq2 => ?_)
            refine RunL.still rfl rfl rfl (Still.move rfl rfl) ?_
            refine RunL.still rfl rfl rfl (Still.extractN rfl rfl rfl) ?_
            refine RunL.still rfl rfl rfl (Still.extractN rfl rfl rfl) ?_
            refine RunL.grows rfl rfl rfl (Grows.alloc rfl Tryz.zeroValue24) (fun b11 _ => ?_)
            refine RunL.does0 rfl rfl (Does.store rfl rfl rfl (i := 0) rfl Tryz.sizeOf24 rfl (rfl) rfl) (fun _ _ => ?_)
            refine RunL.conv (fun _ hs => hs.re 0 rfl (show _ = HL.obj b11 (.cells #[.slice q2.1 (uniG (unT g k) (partM g (k : Int))).length q2.2] 24 (0, 0)) from rfl)) ?_
            refine RunL.still rfl rfl rfl (Still.assign rfl rfl) ?_
            refine RunL.nil ?_
            refine Ends.then ?_
            refine RunC.seq ?_
            refine RunC.seq ?_
            refine RunC.region ?_
            refine RunL.still rfl rfl rfl (Still.move rfl rfl) ?_
            refine RunL.still rfl rfl rfl (Still.neq rfl rfl rfl) ?_
            refine RunL.again (t := 71) (u := .bool false) rfl (rfl) ?_
            refine RunL.still rfl rfl rfl (Still.move rfl rfl) ?_
            refine RunL.still rfl rfl rfl (Still.move rfl rfl) ?_
            refine RunL.still rfl rfl rfl (Still.neq rfl rfl rfl) ?_
            refine RunL.again (t := 74) (u := .bool false) rfl (rfl) ?_
            refine RunL.still rfl rfl rfl (Still.pickF rfl rfl rfl) ?_
            refine RunL.nil ?_
            refine Ends.then ?_
            refine RunC.cond_false rfl ?_
            refine RunC.skip ?_
            refine Ends.then ?_
            refine RunC.region ?_
            refine RunL.still rfl rfl rfl (Still.loads rfl rfl Tryz.isAgg24 Tryz.sizeOf24 (vs := [_]) rfl (fun _ hs => cells_nth (hs.at (i := 0) rfl) ⟨rfl, trivial⟩)) ?_
            refine RunL.does0 rfl rfl (Does.store rfl rfl rfl (i := 4) rfl Tryz.sizeOf24 rfl (rfl) rfl) (fun _ _ => ?_)
            refine RunL.conv (fun _ hs => hs.re 4 rfl (show _ = HL.obj b7 (.cells #[.slice q2.1 (uniG (unT g k) (partM g (k : Int))).length q2.2] 24 (0, 0)) from rfl)) ?_
            refine RunL.nil ?_
            refine Ends.block ?_
            refine Ends.then ?_
            refine RunC.region ?_
            refine RunL.still rfl rfl rfl (Still.move rfl rfl) ?_
            refine RunL.still rfl rfl rfl (Still.add rfl rfl rfl (fits64 (by omega) (by omega))) ?_
            refine RunL.still rfl rfl rfl (Still.assign rfl rfl) ?_
            refine RunL.nil ?_
            refine Ends.again (q2, k + 1) ?_ ?_ (Fr.Sub.app ?_ ?_) ?_
            · show k + 1 ≤ _; omega
            · show _ - (k + 1) < _ - k; omega
            · exact Fr.Sub.cons rfl (Fr.Sub.nil _)
            · exact Fr.Sub.cons rfl (Fr.Sub.cons rfl (Fr.Sub.cons rfl (Fr.Sub.cons rfl (Fr.Sub.nil _))))
            · exact HSub.pick 4 rfl (HSub.pick 1 rfl (HSub.pick 4 rfl (HSub.pick 4 rfl (HSub.pick 4 rfl (HSub.nil _)))))
          · have h55 := of_decide_eq_false h55
            obtain rfl : k = pn g := by omega
            refine RunC.exit ?_
            refine Ends.then_exit ?_
            refine Ends.then_exit ?_
            refine Ends.block_exit ?_
            refine Ends.then ?_
            refine RunC.seq ?_
            refine RunC.region ?_
            refine RunL.still rfl rfl rfl (Still.loads rfl rfl Tryz.isAgg24 Tryz.sizeOf24 (vs := [_]) rfl (fun _ hs => cells_nth (hs.at (i := 4) rfl) ⟨rfl, trivial⟩)) ?_
            refine RunL.still rfl rfl rfl (Still.loads rfl rfl Tryz.isAgg24 Tryz.sizeOf24 (vs := [_]) rfl (fun _ hs => cells_nth (hs.at (i := 3) rfl) ⟨rfl, trivial⟩)) ?_
            refine RunL.grows rfl rfl rfl (Grows.call (vs := #[_, _]) rfl rfl Tryz.call22 (fun w hs => gl_Union_ok gb GA gc g hb HA hc h w (hg.sym hs) (hh.sym hs) hokg hokh (by omega))) (fun q3 hq3 => ?_)
            refine RunL.still rfl rfl rfl (Still.move rfl rfl) ?_
            refine RunL.still rfl rfl rfl (Still.extractN rfl rfl rfl) ?_
            refine RunL.still rfl rfl rfl (Still.extractN rfl rfl rfl) ?_
            refine RunL.grows rfl rfl rfl (Grows.alloc rfl Tryz.zeroValue24) (fun b13 _ => ?_)
            refine RunL.does0 rfl rfl (Does.store rfl rfl rfl (i := 0) rfl Tryz.sizeOf24 rfl (rfl) rfl) (fun _ _ => ?_)
            refine RunL.conv (fun _ hs => hs.re 0 rfl (show _ = HL.obj b13 (.cells #[.slice q3.1 (uniG g h).length q3.2] 24 (0, 0)) from rfl)) ?_
            refine RunL.still rfl rfl rfl (Still.assign rfl rfl) ?_
            refine RunL.nil ?_
            refine Ends.then ?_
            refine RunC.seq ?_
            refine RunC.region ?_
            refine RunL.still rfl rfl rfl (Still.loads rfl rfl Tryz.isAgg24 Tryz.sizeOf24 (vs := [_]) rfl (fun _ hs => cells_nth (hs.at (i := 5) rfl) ⟨rfl, trivial⟩)) ?_
            refine RunL.grows rfl rfl rfl (Grows.call (vs := #[_]) rfl rfl Tryz.call16 (fun w hs => gl_Parts hb HA hc h w (hh.sym hs) hokh)) (fun ph _ => ?_)
            refine RunL.still rfl rfl rfl (Still.move rfl rfl) ?_
            refine RunL.still rfl rfl rfl (Still.extractN rfl rfl rfl) ?_
            refine RunL.still rfl rfl rfl (Still.extractN rfl rfl rfl) ?_
            refine RunL.still rfl rfl rfl (Still.assign rfl rfl) ?_
            refine RunL.still rfl rfl rfl (Still.assign rfl rfl) ?_
            refine RunL.nil ?_
            refine Ends.then ?_
            refine RunC.seq ?_
            refine RunC.region ?_
            refine RunL.still rfl rfl rfl (Still.loads rfl rfl Tryz.isAgg24 Tryz.sizeOf24 (vs := [_]) rfl (fun _ hs => cells_nth (hs.at (i := 1) rfl) ⟨rfl, trivial⟩)) ?_
            refine RunL.grows rfl rfl rfl (Grows.call (vs := #[_]) rfl rfl Tryz.call16 (fun w hs => gl_Parts q3.1 _ q3.2 (uniG g h) w (GluAt.of_ownG (q := q3) (g := (uniG g h)) (by omega) (hs.at (i := 2) rfl)) hokU)) (fun pu _ => ?_)
            refine RunL.still rfl rfl rfl (Still.move rfl rfl) ?_
            refine RunL.still rfl rfl rfl (Still.extractN rfl rfl rfl) ?_
            refine RunL.still rfl rfl rfl (Still.extractN rfl rfl rfl) ?_
            refine RunL.still rfl rfl rfl (Still.assign rfl rfl) ?_
            refine RunL.still rfl rfl rfl (Still.assign rfl rfl) ?_
            refine RunL.nil ?_
            refine Ends.then ?_
            refine RunC.seq ?_
            refine RunC.seq ?_
            refine RunC.region ?_
            refine RunL.still rfl rfl rfl (Still.move rfl rfl) ?_
            refine RunL.still rfl rfl rfl (Still.neq rfl rfl rfl) ?_
            refine RunL.again (t := 94) (u := .bool false) rfl (rfl) ?_
            refine RunL.still rfl rfl rfl (Still.move rfl rfl) ?_
            refine RunL.still rfl rfl rfl (Still.move rfl rfl) ?_
            refine RunL.still rfl rfl rfl (Still.neq rfl rfl rfl) ?_
            refine RunL.again (t := 97) (u := .bool false) rfl (rfl) ?_
            refine RunL.still rfl rfl rfl (Still.pickF rfl rfl rfl) ?_
            refine RunL.still rfl rfl rfl (Still.move rfl rfl) ?_
            refine RunL.still rfl rfl rfl (Still.move rfl rfl) ?_
            refine RunL.still rfl rfl rfl (Still.neq rfl rfl rfl) ?_
            refine RunL.again (t := 101) (u := .bool false) rfl (rfl) ?_
            refine RunL.still rfl rfl rfl (Still.pickF rfl rfl rfl) ?_
            refine RunL.still rfl rfl rfl (Still.move rfl rfl) ?_
            refine RunL.still rfl rfl rfl (Still.loads rfl rfl Tryz.isAgg24 Tryz.sizeOf24 (vs := [_]) rfl (fun _ hs => cells_nth (hs.at (i := 4) rfl) ⟨rfl, trivial⟩)) ?_
            refine RunL.still rfl rfl rfl (Still.loads rfl rfl Tryz.isAgg24 Tryz.sizeOf24 (vs := [_]) rfl (fun _ hs => cells_nth (hs.at (i := 8) rfl) ⟨rfl, trivial⟩)) ?_
            refine RunL.grows rfl rfl rfl (Grows.call (vs := #[_, _]) rfl rfl Tryz.call35 (fun w hs => rf_Renumbered q.1 _ q.2 (unT g (pn g)) gb GA gc g w (GluAt.of_ownG (q := q) (g := (unT g (pn g))) (by omega) (hs.at (i := 5) rfl)) (hg.sym hs) hJ.ok hokg (un_len hokg h1g) (un_rn hokg h1g))) (fun _ _ => ?_)
            refine RunL.again (t := 106) (u := .bool true) rfl (rfl) ?_
            refine RunL.still rfl rfl rfl (Still.not rfl rfl) ?_
            refine RunL.still rfl rfl rfl (Still.pickF rfl rfl rfl) ?_
            refine RunL.still rfl rfl rfl (Still.move rfl rfl) ?_
            refine RunL.still rfl rfl rfl (Still.move rfl rfl) ?_
            refine RunL.grows rfl rfl rfl (Grows.call (vs := #[_]) rfl rfl Tryz.call17 (fun w hs => lw_count_parts pu w hokU (hs.own (i := 0) rfl))) (fun _ _ => ?_)
            refine RunL.still rfl rfl rfl (Still.move rfl rfl) ?_
            refine RunL.grows rfl rfl rfl (Grows.call (vs := #[_]) rfl rfl Tryz.call17 (fun w hs => lw_count_parts pl w hokg (hs.own (i := 6) rfl))) (fun _ _ => ?_)
            refine RunL.still rfl rfl rfl (Still.move rfl rfl) ?_
            refine RunL.grows rfl rfl rfl (Grows.call (vs := #[_]) rfl rfl Tryz.call17 (fun w hs => lw_count_parts ph w hokh (hs.own (i := 1) rfl))) (fun _ _ => ?_)
            refine RunL.still rfl rfl rfl (Still.add rfl rfl rfl (fits64 (by omega) (by omega))) ?_
            refine RunL.still rfl rfl rfl (Still.neq rfl rfl rfl) ?_
            refine RunL.again (t := 117) (u := .bool false) rfl (congrArg Value.bool (by rw [hsum]; simp)) ?_
            refine RunL.still rfl rfl rfl (Still.pickF rfl rfl rfl) ?_
            refine RunL.nil ?_
            refine Ends.then ?_
            refine RunC.cond_false rfl ?_
            refine RunC.skip ?_
            refine Ends.then ?_
            refine RunC.seq ?_
            refine RunC.seq ?_
            refine RunC.region ?_
            refine RunL.still rfl rfl rfl (Still.assign rfl rfl) ?_
            refine RunL.nil ?_
            refine Ends.then ?_
            refine RunC.block ?_
            refine RunC.loop2 (γ := Nat) (keep := [(2, _), (5, _), (13, _)]) (hkeep := [_, _, _, _, _, _, _, _, _]) (fun k => k ≤ pn g) (fun k => pn g - k) (fun k => [(18, iv k)]) (fun k => []) 0 (Nat.zero_le _) (Fr.Sub.cons rfl (Fr.Sub.nil _)) (Fr.Sub.cons rfl (Fr.Sub.cons rfl (Fr.Sub.cons rfl (Fr.Sub.nil _)))) (HSub.pick 0 rfl (HSub.pick 0 rfl (HSub.pick 0 rfl (HSub.pick 0 rfl (HSub.pick 0 rfl (HSub.pick 0 rfl (HSub.pick 0 rfl (HSub.pick 0 rfl (HSub.pick 0 rfl (HSub.nil _)))))))))) ?_
            rintro k hk
            have hpm := partM_le g (k : Int)
            have hpu := partM_le (uniG g h) (k : Int)
            refine RunC.seq ?_
            refine RunC.seq ?_
            refine RunC.region ?_
            refine RunL.still rfl rfl rfl (Still.move rfl rfl) ?_
            refine RunL.still rfl rfl rfl (Still.move rfl rfl) ?_
            refine RunL.grows rfl rfl rfl (Grows.call (vs := #[_]) rfl rfl Tryz.call17 (fun w hs => lw_count_parts pl w hokg (hs.own (i := 6) rfl))) (fun _ _ => ?_)
            refine RunL.still rfl rfl rfl (Still.lss rfl rfl rfl) ?_
            refine RunL.nil ?_
            refine Ends.then ?_
            refine RunC.cond rfl (fun h122 => ?_) (fun h122 => ?_)
            · have h122 := of_decide_eq_true h122
              refine RunC.skip ?_
              refine Ends.then ?_
              refine RunC.seq ?_
              refine RunC.block ?_
              refine RunC.seq ?_
              refine RunC.region ?_
              refine RunL.still rfl rfl rfl (Still.loads rfl rfl Tryz.isAgg24 Tryz.sizeOf24 (vs := [_]) rfl (fun _ hs => cells_nth (hs.at (i := 2) rfl) ⟨rfl, trivial⟩)) ?_
              refine RunL.still rfl rfl rfl (Still.move rfl rfl) ?_
              refine RunL.grows rfl rfl rfl (Grows.call (vs := #[_, _]) rfl rfl Tryz.call33 (fun w hs => gl_Part q3.1 _ q3.2 (uniG g h) (k : Int) w (GluAt.of_ownG (q := q3) (g := (uniG g h)) (by omega) (hs.at (i := 3) rfl)) hokU ⟨by omega, by omega⟩ (parts_len hokU))) (fun q4 hq4 => ?_)
              refine RunL.still rfl rfl rfl (Still.move rfl rfl) ?_
              refine RunL.still rfl rfl rfl (Still.extractN rfl rfl rfl) ?_
              refine RunL.still rfl rfl rfl (Still.extractN rfl rfl rfl) ?_
              refine RunL.grows rfl rfl rfl (Grows.alloc rfl Tryz.zeroValue24) (fun b19 _ => ?_)
              refine RunL.does0 rfl rfl (Does.store rfl rfl rfl (i := 0) rfl Tryz.sizeOf24 rfl (rfl) rfl) (fun _ _ => ?_)
              refine RunL.conv (fun _ hs => hs.re 0 rfl (show _ = HL.obj b19 (.cells #[.slice q4.1 (partM (uniG g h) (k : Int)).length q4.2] 24 (0, 0)) from rfl)) ?_
              refine RunL.still rfl rfl rfl (Still.assign rfl rfl) ?_
              refine RunL.nil ?_
              refine Ends.then ?_
              refine RunC.seq ?_
              refine RunC.region ?_
              refine RunL.still rfl rfl rfl (Still.loads rfl rfl Tryz.isAgg24 Tryz.sizeOf24 (vs := [_]) rfl (fun _ hs => cells_nth (hs.at (i := 10) rfl) ⟨rfl, trivial⟩)) ?_
              refine RunL.still rfl rfl rfl (Still.move rfl rfl) ?_
              refine RunL.grows rfl rfl rfl (Grows.call (vs := #[_, _]) rfl rfl Tryz.call33 (fun w hs => gl_Part gb GA gc g (k : Int) w (hg.sym hs) hokg ⟨by omega, h122⟩ hplg)) (fun q5 hq5 => ?_)
              refine RunL.still rfl rfl rfl (Still.move rfl rfl) ?_
              refine RunL.still rfl rfl rfl (Still.extractN rfl rfl rfl) ?_
              refine RunL.still rfl rfl rfl (Still.extractN rfl rfl rfl) ?_
              refine RunL.grows rfl rfl rfl (Grows.alloc rfl Tryz.zeroValue24) (fun b21 _ => ?_)
              refine RunL.does0 rfl rfl (Does.store rfl rfl rfl (i := 0) rfl Tryz.sizeOf24 rfl (rfl) rfl) (fun _ _ => ?_)
              refine RunL.conv (fun _ hs => hs.re 0 rfl (show _ = HL.obj b21 (.cells #[.slice q5.1 (partM g (k : Int)).length q5.2] 24 (0, 0)) from rfl)) ?_
              refine RunL.still rfl rfl rfl (Still.assign rfl rfl) ?_
              refine RunL.nil ?_
              refine Ends.then ?_
              refine RunC.seq ?_
              refine RunC.region ?_
              refine RunL.still rfl rfl rfl (Still.move rfl rfl) ?_
              refine RunL.still rfl rfl rfl (Still.neq rfl rfl rfl) ?_
              refine RunL.again (t := 138) (u := .bool false) rfl (rfl) ?_
              refine RunL.still rfl rfl rfl (Still.move rfl rfl) ?_
              refine RunL.still rfl rfl rfl (Still.move rfl rfl) ?_
              refine RunL.still rfl rfl rfl (Still.neq rfl rfl rfl) ?_
              refine RunL.again (t := 141) (u := .bool false) rfl (rfl) ?_
              refine RunL.still rfl rfl rfl (Still.pickF rfl rfl rfl) ?_
              refine RunL.still rfl rfl rfl (Still.move rfl rfl) ?_
              refine RunL.still rfl rfl rfl (Still.loads rfl rfl Tryz.isAgg24 Tryz.sizeOf24 (vs := [_]) rfl (fun _ hs => cells_nth (hs.at (i := 2) rfl) ⟨rfl, trivial⟩)) ?_
              refine RunL.still rfl rfl rfl (Still.loads rfl rfl Tryz.isAgg24 Tryz.sizeOf24 (vs := [_]) rfl (fun _ hs => cells_nth (hs.at (i := 0) rfl) ⟨rfl, trivial⟩)) ?_
              refine RunL.grows rfl rfl rfl (Grows.call (vs := #[_, _]) rfl rfl Tryz.call20 (fun w hs => rf_Same q4.1 _ q4.2 (partM (uniG g h) (k : Int)) q5.1 _ q5.2 (partM g (k : Int)) w (GluAt.of_ownG (q := q4) (g := (partM (uniG g h) (k : Int))) (by omega) (hs.at (i := 3) rfl)) (GluAt.of_ownG (q := q5) (g := (partM g (k : Int))) (by omega) (hs.at (i := 1) rfl)))) (fun _ _ => ?_)
              refine RunL.again (t := 146) (u := .bool true) rfl (congrArg Value.bool (decide_eq_true (partM_lo hokg hokh (by omega) h122))) ?_
              refine RunL.still rfl rfl rfl (Still.not rfl rfl) ?_
              refine RunL.still rfl rfl rfl (Still.pickF rfl rfl rfl) ?_
              refine RunL.nil ?_
              refine Ends.then ?_
              refine RunC.cond_false rfl ?_
              refine RunC.skip ?_
              refine Ends.block ?_
              refine Ends.then ?_
              refine RunC.region ?_
              refine RunL.still rfl rfl rfl (Still.move rfl rfl) ?_
              refine RunL.still rfl rfl rfl (Still.add rfl rfl rfl (fits64 (by omega) (by omega))) ?_
              refine RunL.still rfl rfl rfl (Still.assign rfl rfl) ?_
              refine RunL.nil ?_
              refine Ends.again (k + 1) ?_ ?_ (Fr.Sub.app ?_ ?_) ?_
              · show _; omega
              · show _ < _; omega
              · exact Fr.Sub.cons rfl (Fr.Sub.nil _)
              · exact Fr.Sub.cons rfl (Fr.Sub.cons rfl (Fr.Sub.cons rfl (Fr.Sub.nil _)))
              · exact HSub.pick 4 rfl (HSub.pick 4 rfl (HSub.pick 4 rfl (HSub.pick 4 rfl (HSub.pick 4 rfl (HSub.pick 4 rfl (HSub.pick 4 rfl (HSub.pick 4 rfl (HSub.pick 4 rfl (HSub.nil _)))))))))
            · skip
              refine RunC.exit ?_
              refine Ends.then_exit ?_
              refine Ends.then_exit ?_
              refine Ends.block_exit ?_
              refine Ends.then ?_
              refine RunC.seq ?_
              refine RunC.region ?_
              refine RunL.still rfl rfl rfl (Still.assign rfl rfl) ?_
              refine RunL.nil ?_
              refine Ends.then ?_
              refine RunC.ret ?_
              refine Ends.leave (.inl rfl) (fun _ _ ok => results1 Tryz.results6 (Holds.tmp rfl) ok) (fun w5 hs => ?_)
              exact Ret.intro () trivial rfl (HSub.nil _) hs

end Go.Proofs
/- GlueParts: for every two gluings, valid or not, the statement's function returns true and changes nothing. No condition. -/
namespace Go.Proofs.YtbnfcbmpgjmhmaaGreatDoor
open Go Go.V Go.ChangeShapes Go.WideShapes Go.ChangeAt Go.WideElems Go.RowKit
theorem own : ownKnob Tryz.prog.godebug = none := by kernel_rfl
theorem laidOut : laidOutB Tryz.prog = true := by kernel_rfl
set_option maxRecDepth 100000 in
theorem door_met (os : Os) (args : Array Value) : laidMetH Tryz.prog laidT ((World.laidAll Tryz.prog os laidT).forCall (fun _ _ => 0) ⟨#[], args, []⟩).memory := by
  rw [MakeChecks.laidMetH_plain _ _ _ laidT_plain]
  exact laidMet_laidAll _ (by kernel_rfl) (by kernel_rfl)
set_option maxRecDepth 100000 in
theorem lifted (os : Os) (started : os.Started) (H : Type) (enc : TypeId × Value → H) :
    ReturnsInHanded {} Tryz.checked os 6 .any (fun w args => (Rows.gluePartsSpec.pre enc Tryz.prog Tryz.f6 [] false w args ∧ laidMetH Tryz.prog laidT w) ∧ sizedMet enc Tryz.prog Tryz.f6 (OpenSpec.ofChange Rows.gluePartsSpec) false w args)
      (Rows.gluePartsSpec.post enc Tryz.prog Tryz.f6 false true false false) := by
  refine wrap_and_shaped (C := Tryz.checked) (X := fun w _ => laidMetH Tryz.prog laidT w) (fun _ _ _ hh h => h.of_heap hh) own started (by kernel_rfl) Tryz.func6
    (ChangeSpec.witness_shaped (enc := enc) (C := Tryz.checked) (os := os) (X := fun w _ => laidMetH Tryz.prog laidT w) false (World.laidAll Tryz.prog os laidT) #[.agg #[.slice none 0 0], .agg #[.slice none 0 0]] 8 (World.laidAll_os _ _ _) (World.shaped_of_ZipB (by kernel_rfl) (by kernel_rfl)) (by kernel_rfl) (by kernel_rfl) (by kernel_rfl) (door_met os _)) ?_
  intro W base args ds gs before hval0 hW hL hSh
  have hE : Env W := env_of_laid hL hSh
  have hval : ∀ (j : Nat) t v, Tryz.f6.params[j]? = some t → args[j]? = some v → Value.okWide Tryz.prog W .any base t v := hval0
  have hW' := hW
  have hlt := hW.lt
  obtain ⟨p, q, hA0, hV, rfl, hfz, hnd⟩ := hW
  have hA : DataW.TrodAll enc Tryz.prog W 0 (fun _ => true) true Tryz.f6.params.toList args.toList ds p := hA0
  rw [Tryz.params6] at hA hval
  obtain ⟨v0, v1, d0, d1, p0, p1, rfl, rfl, rfl, h0, h1⟩ := trodAll_two hA
  obtain ⟨rfl, rfl⟩ := trodVars_none hV
  obtain ⟨bs0, A0, cap0, x0, rfl, m0⟩ := open_glu (hval 0 24 v0 rfl rfl) h0
  obtain ⟨bs1, A1, cap1, x1, rfl, m1⟩ := open_glu (hval 1 24 v1 rfl rfl) h1
  refine (lw_GlueParts bs0 A0 cap0 x0 bs1 A1 cap1 x1 W hE m0 m1).mono fun e W' hR => ?_
  obtain ⟨_, _, rfl, hs⟩ := hR
  have hb : RowKit.Below W.heap.size W W' := hs.old.below
  refine ⟨_, rfl, _, _, _, [], p0 ++ p1, [], hW', trodAll_mk1 (shut_bool Tryz.underlying4 _), ?_, rfl, hb.frame _, fun h => by cases h⟩
  have k0 := Below.trod laidOut (by kernel_rfl) (of_decide_eq_true (by kernel_rfl)) h0 hb (fun x hx => hlt x (by simp [hx]))
  have k1 := Below.trod laidOut (by kernel_rfl) (of_decide_eq_true (by kernel_rfl)) h1 hb (fun x hx => hlt x (by simp [hx]))
  exact trodAll_mk2 k0 k1
theorem glueParts_holds : Rows.GluePartsSaid :=
  OpenClaim.holds_of_wide 6 Tryz.f6 rfl rfl rfl rfl rfl rfl rfl ⟨rfl, rfl, rfl, rfl, rfl⟩ rfl rfl rfl rfl rfl (by kernel_rfl) Tryz.func6 (by kernel_rfl)
    (of_decide_eq_true (by kernel_rfl)) (by unfold Func.isWrapper; first | (rw [if_pos (by decide +kernel)]; kernel_rfl) | (rw [if_neg (by decide +kernel)]; exact ⟨rfl, rfl⟩))
    (fun os started H enc _ => lifted os started H enc)
end Go.Proofs.YtbnfcbmpgjmhmaaGreatDoor
