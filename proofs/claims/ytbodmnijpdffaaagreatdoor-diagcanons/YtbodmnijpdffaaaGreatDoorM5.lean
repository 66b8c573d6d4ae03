/- The sort of the library, over the codes. -/
import Derived.Test.YtbodmnijpdffaaaGreatDoorM1
import Derived.Test.YtbodmnijpdffaaaGreatDoorM4
import Derived.Test.YtbodmnijpdffaaaGreatDoorProg
import Derived.KernelRfl
import Derived.Test.YtbodmnijpdffaaaGreatDoorM2
import Derived.Test.YtbodmnijpdffaaaGreatDoorM3
import Derived.Lib.SmallJoins
import Derived.ProofKit
import Derived.OpenShut
import Derived.Test.YtbodmnijpdffaaaGreatDoorM0
namespace Go.Proofs
open Go Go.V Go.Shelf Go.RowKit Go.Sort
abbrev PA (az : List PC) : Type := {a : PC // a ∈ az ∨ a = (.slice none 0 0, [])}
instance paInh (az : List PC) : Inhabited (PA az) := ⟨⟨(.slice none 0 0, []), .inr rfl⟩⟩
theorem pa_swo (az : List PC) : SWO (ltOf (fun x y : PA az => cmpC x.1.2 y.1.2)) where
  irrefl x := by simp only [ltOf, decide_eq_false_iff_not]; rw [cmpC_lt]; exact ltC_irrefl _
  trans x y z h k := by
    simp only [ltOf, decide_eq_true_eq] at h k ⊢
    rw [cmpC_lt] at h k ⊢; exact ltC_trans h k
  ntrans x y z h k := by
    simp only [ltOf, decide_eq_false_iff_not] at h k ⊢
    rw [cmpC_lt] at h k ⊢; exact leC_trans k h
theorem z_Sort (blk n : Nat) (bs az : List PC) (hb : ∀ a ∈ bs, a ∈ az) (hn : bs.length = n) (h200 : n ≤ 200) (h2 : ∀ a ∈ az, a.2.length ≤ 200) (w : World) (hs0 : Sym w (SK [HL.own 83 1 (.slice (some ⟨blk, 0, none⟩) n n) n ((bs.map some).map cellV)]) [HL.own 83 1 (.slice (some ⟨blk, 0, none⟩) n n) n ((bs.map some).map cellV)] w)
    (hR : ∀ W, Old (SK [HL.own 83 1 (.slice (some ⟨blk, 0, none⟩) n n) n ((bs.map some).map cellV)]) w W → ∀ a ∈ az, Shape a.1 a.2.length ∧ Cells W (vaddr a.1) (a.2.flatMap encCr)) :
    Gives Tryz.prog 49 #[.slice (some ⟨blk, 0, none⟩) n n, .func (.func 48) #[] #[]] w (SK [HL.own 83 1 (.slice (some ⟨blk, 0, none⟩) n n) n ((bs.map some).map cellV)]) (fun bs2 : List PC => bs2.Perm bs ∧ bs2.Pairwise fun a b => ¬ ltC b.2 a.2) (fun _ => .tuple #[]) (fun bs2 => [HL.own 83 1 (.slice (some ⟨blk, 0, none⟩) n n) n (bs2.map Prod.fst)]) := by
  have hcells : (bs.map some).map cellV = bs.map Prod.fst := by rw [List.map_map]; rfl
  rw [hcells] at hs0 hR ⊢
  -- the block
  have ho : w.ownsRow 0 83 1 (.slice (some ⟨blk, 0, none⟩) n n) n (bs.map Prod.fst) := hs0.own (i := 0) rfl
  obtain ⟨cur, hcur, hsz, hall⟩ : ∃ cur, w.heap[blk]? = some (.cells cur 83 (0, 0)) ∧ cur.size = n ∧ cur.toList = bs.map Prod.fst := by
    rcases ho.2 with ⟨h1, _⟩ | ⟨g, cap, cur, hv, _, hg, _, _, hcs, htk⟩
    · cases h1
    · simp only [Value.slice.injEq, Option.some.injEq, Addr.mk.injEq] at hv
      obtain ⟨⟨rfl, _⟩, _, rfl⟩ := hv
      refine ⟨cur, hg, by omega, ?_⟩
      rw [← htk, List.take_of_length_le (by simp; omega)]
  have hblk : blk < w.heap.size := (hs0.supp _ List.mem_cons_self blk rfl).1
  -- the elements
  let dl : List (PA az) := bs.pmap (fun a h => ⟨a, .inl h⟩) hb
  have dlv : dl.map (fun a => a.1) = bs := by simp only [dl, List.map_pmap]; rw [List.pmap_eq_map]; simp
  have dll : dl.length = n := by simp [dl, hn]
  let d0 : Array (PA az) := dl.toArray
  let enc : PA az → Value := fun a => a.1.1
  have h1 : OneCell enc := fun a => by
    rcases a.2 with h | h
    · obtain ⟨b, c, e, _⟩ := (hR w (Old.refl _ w) a.1 h).1
      show (a.1.1).oneCell' = true
      rw [e]; rfl
    · show (a.1.1).oneCell' = true
      rw [h]; rfl
  have hH : Holds enc w blk 0 d0 := fun j hj => by
    have hj : j < dl.length := by simpa [d0] using hj
    refine ⟨?_, frozen_free hcur⟩
    have hx : d0[j]! = dl[j] := by rw [getElem!_pos d0 j (by simpa [d0] using hj)]; simp [d0]
    rw [hx, Nat.zero_add]
    refine cell_of_obj hcur ?_
    rw [← Array.getElem?_toList, hall, ← dlv, List.map_map, List.getElem?_map, List.getElem?_eq_getElem hj]; rfl
  have eg : ∀ args w, (callFunc 48 args).run Tryz.prog w = .ok (.enter 48 args) w := Tryz.call48
  have hold : ∀ (m : Nat) (os : Array Obj) (dk : Array (PA az)), Old (SK [HL.own 83 1 (.slice (some ⟨blk, 0, none⟩) n n) n (bs.map Prod.fst)]) w (sortWorld enc w blk 0 m dk os) := fun m os dk =>
    (sortW_old enc w blk m dk os).mono fun k _ hk => ⟨_, List.mem_cons_self, by rw [hk]; rfl⟩
  have hcmp : CmpLays1 Tryz.prog 48 #[] enc (fun x y : PA az => cmpC x.1.2 y.1.2) blk 0 d0.size w := fun m os dk _ x y => by
    have row : ∀ a : PA az, Shape a.1.1 a.1.2.length ∧ Cells (sortWorld enc w blk 0 m dk os) (vaddr a.1.1) (a.1.2.flatMap encCr) ∧ a.1.2.length ≤ 200 := fun a => by
      rcases a.2 with h | h
      · obtain ⟨k1, k2⟩ := hR _ (hold m os dk) a.1 h
        exact ⟨k1, k2, h2 a.1 h⟩
      · rw [h]
        exact ⟨⟨none, 0, rfl, fun k => absurd k (Nat.not_lt_zero _)⟩, fun j v hj => by simp at hj, Nat.zero_le _⟩
    obtain ⟨x1, x2, x3⟩ := row x
    obtain ⟨y1, y2, y3⟩ := row y
    have h := @z_compared ⟨True⟩ x.1.1 y.1.1 x.1.2 y.1.2 (sortWorld enc w blk 0 m dk os) x1 y1 (by omega) (by omega) x2 y2
    refine Calls.mono h ?_
    rintro e w' ⟨_, _, he, hs⟩
    exact ⟨he, old_grow (@Sym.old ⟨True⟩ _ _ _ _ hs)⟩
  have hcon := Any.slices_SortFunc Tryz.sortL enc h1 (fun x y : PA az => cmpC x.1.2 y.1.2) (pa_swo az) 48 #[] blk 0 n d0 w eg hcmp hH hblk (by simp [d0, dll]; omega)
  change Calls Tryz.prog 49 _ _ _ at hcon
  have hd0 : d0.size = n := by simp [d0, dll]
  rw [hd0] at hcon
  refine Calls.mono hcon ?_
  rintro e w' ⟨rfl, d', m, os, hp, hso, rfl⟩
  have hds : d'.size = n := hp.1.trans hd0
  have hpl : d'.toList.Perm dl := by
    have := hp.2.2
    rw [Array.extract_eq_self_of_le (by omega), Array.extract_eq_self_of_le (by omega)] at this
    simpa [d0] using this
  refine ⟨d'.toList.map (fun a => a.1), ⟨?_, ?_⟩, rfl, ?_⟩
  · have := hpl.map (fun a : PA az => a.1)
    rwa [dlv] at this
  · rw [List.pairwise_map, List.pairwise_iff_getElem]
    intro i j hi hj hij
    have hj' : j < d'.size := by simpa using hj
    have := hso i j (Nat.zero_le _) hij (by omega)
    rw [getElem!_pos d' i (by omega), getElem!_pos d' j hj'] at this
    simp only [ltOf, decide_eq_false_iff_not] at this
    rw [cmpC_lt] at this
    simpa using this
  · have hat := sortW_at enc w blk m d' os hcur
    have hcl := putCells_all enc d' (cur := cur) (by omega)
    refine ⟨hold m os d', fun h hm => ?_, fun h hm b hb => ?_, List.pairwise_singleton _ _⟩
    · rw [List.mem_singleton.1 hm]
      refine ⟨by simp [hds], .inr ⟨blk, n, _, rfl, Nat.zero_le _, hat, Nat.le_refl _, by simp [maxLen]; omega, ?_, ?_⟩⟩
      · have := congrArg List.length hcl; simp at this; omega
      · rw [hcl, List.take_of_length_le (by simp; omega), List.map_map]; rfl
    · rw [List.mem_singleton.1 hm] at hb
      have e : blk = b := Option.some.inj hb
      subst e
      have := (sortW_old enc w blk m d' os).size
      exact ⟨by omega, .inr ⟨_, List.mem_cons_self, rfl⟩⟩
end Go.Proofs
/- The canonical form, as the program makes it. -/
namespace Go.Proofs
open Go Go.V
set_option maxRecDepth 20000
theorem dg_Canonical_hd {d : Dia} (hS : SoundP d) {L : List (List Cr)} (h : IsCan d L) : (flatC 0 L).length = d.cross.length := by
  obtain ⟨s, t, r⟩ := can_ren hS h
  exact r.len
theorem flatTo_succ2 {bs : List PC} {i : Nat} {a : PC} (h : bs[i]? = some a) : flatTo bs (i + 1) = flatTo bs i ++ (a.2.take a.2.length).map (shCr (2 * (flatTo bs i).length : Nat)) := by rw [List.take_length]; exact flatTo_succ h
theorem flat4 (F : List Cr) (k : Int) {l : List Cr} {j : Nat} {y : Cr} (h : l[j]? = some y) : (F ++ (l.take j).map (shCr k)).flatMap encCr ++ [iv (y.a0 + k), iv (y.a1 + k), iv (y.a2 + k), iv (y.a3 + k), iv y.s] = (F ++ (l.take (j + 1)).map (shCr k)).flatMap encCr := by
  rw [List.take_add_one, h, Option.toList_some, List.map_append, List.map_singleton, ← List.append_assoc, List.flatMap_append]
  simp [encCr, shCr]

theorem dg_Canonical_ok (base : Option Addr) (A : Addr) (cap : Nat) (d : Dia) (w : World) (hd : DiaAt w base A d) (hc : checkI d = 0) : Gives Tryz.prog 15 #[diaV base cap d] w Nil (fun g : (Option Addr × Nat) × List (List Cr) => OKB g.1 (canF d g.2).cross.length ∧ IsCan d g.2) (fun g => .tuple #[diaV g.1.1 g.1.2 (canF d g.2), iv 0]) (fun g => [ownD g.1 (canF d g.2)]) := by
  obtain ⟨hS, hPl⟩ := checkI_ok.1 hc
  have h200 := hS.1
  have hlo := hS.2.1
  have hlo2 := hS.2.2.1
  refine fn_of_run (S := Nil) (args := [diaV base cap d]) (n := 121) (L := []) Tryz.func15 rfl Tryz.ntmps15 (Nat.le_of_ble_eq_true rfl) (Sym.nil _ _) ?_
  change RunC _ _ _ [(0, _)] _
  refine RunC.seq ?_
  refine RunC.region ?_
  refine RunL.grows rfl rfl rfl (Grows.box rfl rfl) (fun b1 _ => ?_)
  refine RunL.grows rfl rfl rfl (Grows.alloc rfl Tryz.zeroValue24) (fun b2 _ => ?_)
  refine RunL.still rfl rfl rfl (Still.assign rfl rfl) ?_
  refine RunL.nil ?_
  refine Ends.then ?_
  refine RunC.seq ?_
  refine RunC.region ?_
  refine RunL.still rfl rfl rfl (Still.loads rfl rfl Tryz.isAgg24 Tryz.sizeOf24 (vs := [_, _]) rfl (fun _ hs => cells_nth (hs.at (i := 1) rfl) ⟨rfl, ⟨rfl, trivial⟩⟩)) ?_
  refine RunL.grows rfl rfl rfl (Grows.call (vs := #[_]) rfl rfl Tryz.call31 (fun w hs => dg_enter_ok base A cap d w (hd.sym hs) hc)) (fun ⟨eb, av⟩ hav => ?_)
  refine RunL.still rfl rfl rfl (Still.move rfl rfl) ?_
  refine RunL.still rfl rfl rfl (Still.extractN rfl rfl rfl) ?_
  refine RunL.still rfl rfl rfl (Still.extractN rfl rfl rfl) ?_
  refine RunL.still rfl rfl rfl (Still.assign rfl rfl) ?_
  refine RunL.still rfl rfl rfl (Still.assign rfl rfl) ?_
  refine RunL.nil ?_
  refine Ends.then ?_
  refine RunC.seq ?_
  refine RunC.seq ?_
  refine RunC.region ?_
  refine RunL.still rfl rfl rfl (Still.move rfl rfl) ?_
  refine RunL.still rfl rfl rfl (Still.neq rfl rfl rfl) ?_
  refine RunL.nil ?_
  refine Ends.then ?_
  refine RunC.cond rfl (fun h25 => ?_) (fun h25 => ?_)
  · have h25 := of_decide_eq_true h25
    exact absurd rfl h25
  · have h25 := of_decide_eq_false h25
    refine RunC.skip ?_
    refine Ends.then ?_
    refine RunC.seq ?_
    refine RunC.region ?_
    refine RunL.still rfl rfl rfl (Still.move rfl rfl) ?_
    refine RunL.grows rfl rfl rfl (Grows.call (vs := #[_]) rfl rfl Tryz.call46 (fun w hs => dg_pieces eb base A cap d av w (DgAt.of_own (hd.sym hs) (hs.at (i := 0) rfl) (hs.own (i := 1) rfl)) hS)) (fun ⟨pv, os, n⟩ ⟨hpv, hP, hn, hfull⟩ => ?_)
    have hn : n ≤ d.cross.length := hn
    have hP : PInv d os n := hP
    have hfull : ∀ c, c < d.cross.length → ∃ x, os[c]? = some x ∧ 0 ≤ x := hfull
    refine RunL.still rfl rfl rfl (Still.move rfl rfl) ?_
    refine RunL.still rfl rfl rfl (Still.extractN rfl rfl rfl) ?_
    refine RunL.still rfl rfl rfl (Still.extractN rfl rfl rfl) ?_
    refine RunL.still rfl rfl rfl (Still.assign rfl rfl) ?_
    refine RunL.still rfl rfl rfl (Still.assign rfl rfl) ?_
    refine RunL.nil ?_
    refine Ends.then ?_
    refine RunC.seq ?_
    refine RunC.region ?_
    refine RunL.still rfl rfl rfl (Still.move rfl rfl) ?_
    refine RunL.grows rfl rfl rfl (Grows.make (n := n) (xs := ((List.replicate n none).map cellV)) rfl rfl rfl Tryz.underlying82 (by kernel_rfl : (_ : Option _) = some (some (.slice none 0 0), 1, 24)) rfl (by omega) (by omega) ((zeros_one _ _).trans (by simp [cellV]))) (fun b34 _ => ?_)
    refine RunL.still rfl rfl rfl (Still.assign rfl rfl) ?_
    refine RunL.nil ?_
    refine Ends.then ?_
    refine RunC.seq ?_
    refine RunC.seq ?_
    refine RunC.conv (fun _ hs => hs.rows_nil rowHL) ?_
    refine RunC.region ?_
    refine RunL.still rfl rfl rfl (Still.move rfl rfl) ?_
    refine RunL.still rfl rfl rfl (Still.lenOwn rfl rfl Tryz.underlying36 (fun _ hs => hs.own (i := 2) rfl)) ?_
    refine RunL.still rfl rfl rfl (Still.move rfl rfl) ?_
    refine RunL.nil ?_
    refine Ends.then ?_
    refine RunC.block ?_
    refine RunC.loop2 (γ := List (Option PC) × List PC × Nat) (keep := [(2, _), (4, _), (8, _), (35, _), (36, _)]) (hkeep := [_, _, _, _, _]) (fun (cs, az, c) => c ≤ d.cross.length ∧ CanI d os n cs az (2 * c) ∧ ∀ a ∈ az, a.2.length ≤ 200) (fun (cs, az, c) => d.cross.length - c) (fun (cs, az, c) => [(37, iv c)]) (fun (cs, az, c) => [HL.own 83 1 (.slice (some ⟨b34, 0, none⟩) n n) n (cs.map cellV), HL.rows rowHL az]) (List.replicate n none, [], 0) ⟨Nat.zero_le _, CanI.zero d os n, fun a h => by cases h⟩ (Fr.Sub.cons rfl (Fr.Sub.nil _)) (Fr.Sub.cons rfl (Fr.Sub.cons rfl (Fr.Sub.cons rfl (Fr.Sub.cons rfl (Fr.Sub.cons rfl (Fr.Sub.nil _)))))) (HSub.pick 1 rfl (HSub.pick 0 rfl (HSub.pick 0 rfl (HSub.pick 0 rfl (HSub.pick 0 rfl (HSub.pick 0 rfl (HSub.pick 0 rfl (HSub.nil _)))))))) ?_
    rintro ⟨cs, az, c⟩ ⟨hcl, hI, has⟩
    have hcl : c ≤ d.cross.length := hcl
    have hI : CanI d os n cs az (2 * c) := hI
    refine RunC.seq ?_
    refine RunC.region ?_
    refine RunL.still rfl rfl rfl (Still.lss rfl rfl rfl) ?_
    refine RunL.nil ?_
    refine Ends.then ?_
    refine RunC.seq ?_
    refine RunC.cond rfl (fun h38 => ?_) (fun h38 => ?_)
    · have h38 := of_decide_eq_true h38
      have hcN : c < d.cross.length := by omega
      obtain ⟨x, hx, hx0⟩ := hfull c hcN
      obtain ⟨k, rfl⟩ : ∃ k : Nat, x = (k : Int) := ⟨x.toNat, by omega⟩
      have hkn : k < n := by have := (hP.lo c _ hx).2; omega
      refine RunC.skip ?_
      refine Ends.then ?_
      refine RunC.seq ?_
      refine RunC.block ?_
      refine RunC.seq ?_
      refine RunC.region ?_
      refine RunL.still rfl rfl rfl (Still.move rfl rfl) ?_
      refine RunL.still rfl rfl rfl (Still.indexOwn rfl rfl rfl Tryz.underlying36 Tryz.sizeOf3 (fun _ hs => hs.own (i := 2) rfl) (by omega)) ?_
      refine RunL.still rfl rfl rfl (Still.load rfl rfl Tryz.isAgg3 (fun w hs => own_at (hs.own (i := 2) rfl) (ints_get hx))) ?_
      refine RunL.still rfl rfl rfl (Still.assign rfl rfl) ?_
      refine RunL.still rfl rfl rfl (Still.assign rfl rfl) ?_
      refine RunL.nil ?_
      refine Ends.then ?_
      refine RunC.seq ?_
      refine RunC.region ?_
      refine RunL.still rfl rfl rfl (Still.move rfl rfl) ?_
      refine RunL.nil ?_
      refine Ends.then ?_
      refine RunC.block ?_
      refine RunC.loop2 (γ := List (Option PC) × List PC × Nat) (keep := [(2, _), (4, _), (8, _), (9, _), (10, _), (35, _), (36, _), (37, _)]) (hkeep := [_, _, _, _, _]) (fun (cs, az, v) => v ≤ 2 ∧ CanI d os n cs az (2 * c + v) ∧ ∀ a ∈ az, a.2.length ≤ 200) (fun (cs, az, v) => 2 - v) (fun (cs, az, v) => [(42, iv v)]) (fun (cs, az, v) => [HL.own 83 1 (.slice (some ⟨b34, 0, none⟩) n n) n (cs.map cellV), HL.rows rowHL az]) (cs, az, 0) ⟨Nat.zero_le _, hI, has⟩ (Fr.Sub.cons rfl (Fr.Sub.nil _)) (Fr.Sub.cons rfl (Fr.Sub.cons rfl (Fr.Sub.cons rfl (Fr.Sub.cons rfl (Fr.Sub.cons rfl (Fr.Sub.cons rfl (Fr.Sub.cons rfl (Fr.Sub.cons rfl (Fr.Sub.nil _))))))))) (HSub.pick 0 rfl (HSub.pick 0 rfl (HSub.pick 0 rfl (HSub.pick 0 rfl (HSub.pick 0 rfl (HSub.pick 0 rfl (HSub.pick 0 rfl (HSub.nil _)))))))) ?_
      rintro ⟨cs, az, v⟩ ⟨hv2, hI, has⟩
      have hv2 : v ≤ 2 := hv2
      have hI : CanI d os n cs az (2 * c + v) := hI
      obtain ⟨b, hb⟩ := get_of_lt (l := cs) (i := k) (by rw [hI.len]; exact hkn)
      refine RunC.seq ?_
      refine RunC.region ?_
      refine RunL.still rfl rfl rfl (Still.lss rfl rfl rfl) ?_
      refine RunL.nil ?_
      refine Ends.then ?_
      refine RunC.seq ?_
      refine RunC.cond rfl (fun h43 => ?_) (fun h43 => ?_)
      · have h43 := of_decide_eq_true h43
        have hcv : (2 * c + v) / 2 = c := by omega
        have hcm : (2 * c + v) % 2 = v := by omega
        refine RunC.skip ?_
        refine Ends.then ?_
        refine RunC.seq ?_
        refine RunC.block ?_
        refine RunC.seq ?_
        refine RunC.region ?_
        refine RunL.still rfl rfl rfl (Still.move rfl rfl) ?_
        refine RunL.still rfl rfl rfl (Still.assign rfl rfl) ?_
        refine RunL.nil ?_
        refine Ends.then ?_
        refine RunC.seq ?_
        refine RunC.region ?_
        refine RunL.still rfl rfl rfl (Still.move rfl rfl) ?_
        refine RunL.still rfl rfl rfl (Still.move rfl rfl) ?_
        refine RunL.still rfl rfl rfl (Still.move rfl rfl) ?_
        refine RunL.grows rfl rfl rfl (Grows.call (vs := #[_, _, _]) rfl rfl Tryz.call47 (fun w hs => z_code eb base A cap d av c v w (DgAt.of_own (hd.sym hs) (hs.at (i := 3) rfl) (hs.own (i := 4) rfl)) hS hcN)) (fun v48 _ => ?_)
        refine RunL.know (fun _ hs => own_open (hs.own (i := 0) rfl) (codeOf_pos hS hcN v)) (fun hop => ?_)
        obtain ⟨ng, nc, hv48, _⟩ := hop
        refine RunL.still rfl rfl rfl (Still.assign rfl rfl) ?_
        refine RunL.conv (fun _ hs => Sym.rows_push (mk := rowHL) (a := (v48, codeOf d c v)) (hs.sub (HSub.pick 0 rfl (HSub.pick 1 rfl (HSub.pick 0 rfl (HSub.pick 0 rfl (HSub.pick 0 rfl (HSub.pick 0 rfl (HSub.pick 0 rfl (HSub.pick 0 rfl (HSub.nil _))))))))))) ?_
        refine RunL.nil ?_
        refine Ends.then ?_
        refine RunC.seq ?_
        refine RunC.region ?_
        by_cases hbn : b = none
        · subst hbn
          refine RunL.still rfl rfl rfl (Still.move rfl rfl) ?_
          refine RunL.still rfl rfl rfl (Still.move rfl rfl) ?_
          refine RunL.still rfl rfl rfl (Still.indexOwn rfl rfl rfl Tryz.underlying82 Tryz.sizeOf83 (fun _ hs => hs.own (i := 1) rfl) (by omega)) ?_
          refine RunL.still rfl rfl rfl (Still.load rfl rfl Tryz.isAgg83 (fun w hs => own_at (hs.own (i := 1) rfl) ((by rw [Nat.mul_one]; exact cellV_get hb)))) ?_
          refine RunL.still rfl rfl rfl (Still.eqlNil rfl rfl rfl Tryz.underlying83) ?_
          refine RunL.again (t := 53) (u := .bool true) rfl (rfl) ?_
          refine RunL.still rfl rfl rfl (Still.move rfl rfl) ?_
          refine RunL.off rfl rfl rfl ?_
          refine RunL.off rfl rfl rfl ?_
          refine RunL.off rfl rfl rfl ?_
          refine RunL.off rfl rfl rfl ?_
          refine RunL.off rfl rfl rfl ?_
          refine RunL.off rfl rfl rfl ?_
          refine RunL.off rfl rfl rfl ?_
          refine RunL.still rfl rfl rfl (Still.pickT rfl rfl rfl) ?_
          refine RunL.nil ?_
          refine Ends.then ?_
          refine RunC.cond_true rfl ?_
          refine RunC.region ?_
          refine RunL.still rfl rfl rfl (Still.move rfl rfl) ?_
          refine RunL.still rfl rfl rfl (Still.move rfl rfl) ?_
          refine RunL.still rfl rfl rfl (Still.move rfl rfl) ?_
          refine RunL.still rfl rfl rfl (Still.indexOwn rfl rfl rfl Tryz.underlying82 Tryz.sizeOf83 (fun _ hs => hs.own (i := 1) rfl) (by omega)) ?_
          refine RunL.does0 rfl rfl (Does.storeOwn1 (xs' := ((cs.set k (some (v48, codeOf d c v))).map cellV)) rfl rfl rfl rfl (i := 1) rfl Tryz.sizeOf83 (by rw [hv48]; rfl) (by rw [List.length_map, hI.len]; omega) ((by rw [Nat.mul_one]; exact cellV_set cs k (v48, codeOf d c v)))) (fun _ _ => ?_)
          refine RunL.nil ?_
          refine Ends.block ?_
          refine Ends.then ?_
          refine RunC.region ?_
          refine RunL.still rfl rfl rfl (Still.add rfl rfl rfl (fits64 (by omega) (by omega))) ?_
          refine RunL.still rfl rfl rfl (Still.move rfl rfl) ?_
          refine RunL.nil ?_
          refine Ends.again (cs.set k (some (v48, codeOf d c v)), az ++ [(v48, codeOf d c v)], v + 1) ?_ ?_ (Fr.Sub.app ?_ ?_) ?_
          · exact ⟨by show v + 1 ≤ 2; omega, hI.put (by rw [hcv]; exact hx) hb (by rw [hcv, hcm]) ⟨ng, nc, hv48⟩ (fun a0 e => by cases e), fun a ha => (List.mem_append.1 ha).elim (has a) (fun e => by rw [List.mem_singleton.1 e]; show (codeOf d c v).length ≤ 200; have := codeOf_le hS hcN v; omega)⟩
          · show 2 - (v + 1) < 2 - v; omega
          · exact Fr.Sub.cons rfl (Fr.Sub.nil _)
          · exact Fr.Sub.cons rfl (Fr.Sub.cons rfl (Fr.Sub.cons rfl (Fr.Sub.cons rfl (Fr.Sub.cons rfl (Fr.Sub.cons rfl (Fr.Sub.cons rfl (Fr.Sub.cons rfl (Fr.Sub.nil _))))))))
          · exact HSub.pick 1 rfl (HSub.pick 0 rfl (HSub.pick 0 rfl (HSub.pick 0 rfl (HSub.pick 0 rfl (HSub.pick 0 rfl (HSub.pick 0 rfl (HSub.nil _)))))))
        · obtain ⟨⟨av1, am⟩, rfl⟩ : ∃ a, b = some a := Option.ne_none_iff_exists'.1 hbn
          obtain ⟨og, oc, hav1⟩ := hI.sl _ (hI.mem k _ hb)
          simp only at hav1
          subst hav1
          have haml : am.length ≤ d.cross.length := (hI.best k _ hb).len hS (by omega)
          obtain ⟨jo, hjo⟩ := snoc_old (b := (v48, codeOf d c v)) (hI.mem k _ hb)
          refine RunL.still rfl rfl rfl (Still.move rfl rfl) ?_
          refine RunL.still rfl rfl rfl (Still.move rfl rfl) ?_
          refine RunL.still rfl rfl rfl (Still.indexOwn rfl rfl rfl Tryz.underlying82 Tryz.sizeOf83 (fun _ hs => hs.own (i := 1) rfl) (by omega)) ?_
          refine RunL.still rfl rfl rfl (Still.load rfl rfl Tryz.isAgg83 (fun w hs => own_at (hs.own (i := 1) rfl) ((by rw [Nat.mul_one]; exact cellV_get hb)))) ?_
          refine RunL.still rfl rfl rfl (Still.eqlNil rfl rfl rfl Tryz.underlying83) ?_
          refine RunL.again (t := 53) (u := .bool false) rfl (rfl) ?_
          refine RunL.still rfl rfl rfl (Still.move rfl rfl) ?_
          refine RunL.still rfl rfl rfl (Still.move rfl rfl) ?_
          refine RunL.still rfl rfl rfl (Still.move rfl rfl) ?_
          refine RunL.still rfl rfl rfl (Still.move rfl rfl) ?_
          refine RunL.still rfl rfl rfl (Still.indexOwn rfl rfl rfl Tryz.underlying82 Tryz.sizeOf83 (fun _ hs => hs.own (i := 1) rfl) (by omega)) ?_
          refine RunL.still rfl rfl rfl (Still.load rfl rfl Tryz.isAgg83 (fun w hs => own_at (hs.own (i := 1) rfl) ((by rw [Nat.mul_one]; exact cellV_get hb)))) ?_
          refine RunL.grows rfl rfl rfl (Grows.call (vs := #[_, _]) rfl rfl Tryz.call48 (fun w hs => z_compared v48 (.slice (some ⟨og, 0, none⟩) am.length oc) (codeOf d c v) am w (own_shape (rows_get (hs.at (i := 0) rfl) (snoc_new az _))) (own_shape (rows_get (hs.at (i := 0) rfl) hjo)) (by have := codeOf_le hS hcN v; omega) (by omega) (own_all (rows_get (hs.at (i := 0) rfl) (snoc_new az _))) (own_all (rows_get (hs.at (i := 0) rfl) hjo)))) (fun _ _ => ?_)
          refine RunL.still rfl rfl rfl (Still.lss rfl rfl rfl) ?_
          refine RunL.still rfl rfl rfl (Still.pickF rfl rfl rfl) ?_
          refine RunL.nil ?_
          refine Ends.then ?_
          refine RunC.cond rfl (fun h62 => ?_) (fun h62 => ?_)
          · have h62 := of_decide_eq_true h62
            refine RunC.region ?_
            refine RunL.still rfl rfl rfl (Still.move rfl rfl) ?_
            refine RunL.still rfl rfl rfl (Still.move rfl rfl) ?_
            refine RunL.still rfl rfl rfl (Still.move rfl rfl) ?_
            refine RunL.still rfl rfl rfl (Still.indexOwn rfl rfl rfl Tryz.underlying82 Tryz.sizeOf83 (fun _ hs => hs.own (i := 1) rfl) (by omega)) ?_
            refine RunL.does0 rfl rfl (Does.storeOwn1 (xs' := ((cs.set k (some (v48, codeOf d c v))).map cellV)) rfl rfl rfl rfl (i := 1) rfl Tryz.sizeOf83 (by rw [hv48]; rfl) (by rw [List.length_map, hI.len]; omega) ((by rw [Nat.mul_one]; exact cellV_set cs k (v48, codeOf d c v)))) (fun _ _ => ?_)
            refine RunL.nil ?_
            refine Ends.block ?_
            refine Ends.then ?_
            refine RunC.region ?_
            refine RunL.still rfl rfl rfl (Still.add rfl rfl rfl (fits64 (by omega) (by omega))) ?_
            refine RunL.still rfl rfl rfl (Still.move rfl rfl) ?_
            refine RunL.nil ?_
            refine Ends.again (cs.set k (some (v48, codeOf d c v)), az ++ [(v48, codeOf d c v)], v + 1) ?_ ?_ (Fr.Sub.app ?_ ?_) ?_
            · exact ⟨by show v + 1 ≤ 2; omega, hI.put (by rw [hcv]; exact hx) hb (by rw [hcv, hcm]) ⟨ng, nc, hv48⟩ (fun a0 e => by cases e; exact (cmpC_lt _ _).1 h62), fun a ha => (List.mem_append.1 ha).elim (has a) (fun e => by rw [List.mem_singleton.1 e]; show (codeOf d c v).length ≤ 200; have := codeOf_le hS hcN v; omega)⟩
            · show 2 - (v + 1) < 2 - v; omega
            · exact Fr.Sub.cons rfl (Fr.Sub.nil _)
            · exact Fr.Sub.cons rfl (Fr.Sub.cons rfl (Fr.Sub.cons rfl (Fr.Sub.cons rfl (Fr.Sub.cons rfl (Fr.Sub.cons rfl (Fr.Sub.cons rfl (Fr.Sub.cons rfl (Fr.Sub.nil _))))))))
            · exact HSub.pick 1 rfl (HSub.pick 0 rfl (HSub.pick 0 rfl (HSub.pick 0 rfl (HSub.pick 0 rfl (HSub.pick 0 rfl (HSub.pick 0 rfl (HSub.nil _)))))))
          · have h62 := of_decide_eq_false h62
            refine RunC.skip ?_
            refine Ends.block ?_
            refine Ends.then ?_
            refine RunC.region ?_
            refine RunL.still rfl rfl rfl (Still.add rfl rfl rfl (fits64 (by omega) (by omega))) ?_
            refine RunL.still rfl rfl rfl (Still.move rfl rfl) ?_
            refine RunL.nil ?_
            refine Ends.again (cs, az ++ [(v48, codeOf d c v)], v + 1) ?_ ?_ (Fr.Sub.app ?_ ?_) ?_
            · exact ⟨by show v + 1 ≤ 2; omega, hI.keep (by rw [hcv]; exact hx) hb (by rw [hcv, hcm]) ⟨ng, nc, hv48⟩ (fun k1 => h62 ((cmpC_lt _ _).2 k1)), fun a ha => (List.mem_append.1 ha).elim (has a) (fun e => by rw [List.mem_singleton.1 e]; show (codeOf d c v).length ≤ 200; have := codeOf_le hS hcN v; omega)⟩
            · show 2 - (v + 1) < 2 - v; omega
            · exact Fr.Sub.cons rfl (Fr.Sub.nil _)
            · exact Fr.Sub.cons rfl (Fr.Sub.cons rfl (Fr.Sub.cons rfl (Fr.Sub.cons rfl (Fr.Sub.cons rfl (Fr.Sub.cons rfl (Fr.Sub.cons rfl (Fr.Sub.cons rfl (Fr.Sub.nil _))))))))
            · exact HSub.pick 1 rfl (HSub.pick 0 rfl (HSub.pick 0 rfl (HSub.pick 0 rfl (HSub.pick 0 rfl (HSub.pick 0 rfl (HSub.pick 0 rfl (HSub.nil _)))))))
      · have h43 := of_decide_eq_false h43
        obtain rfl : v = 2 := by omega
        refine RunC.exit ?_
        refine Ends.then_exit ?_
        refine Ends.then_exit ?_
        refine Ends.block_exit ?_
        refine Ends.block ?_
        refine Ends.then ?_
        refine RunC.region ?_
        refine RunL.still rfl rfl rfl (Still.add rfl rfl rfl (fits64 (by omega) (by omega))) ?_
        refine RunL.still rfl rfl rfl (Still.move rfl rfl) ?_
        refine RunL.nil ?_
        refine Ends.again (cs, az, c + 1) ?_ ?_ (Fr.Sub.app ?_ ?_) ?_
        · exact ⟨by show c + 1 ≤ _; omega, hI, has⟩
        · show _ - (c + 1) < _ - c; omega
        · exact Fr.Sub.cons rfl (Fr.Sub.nil _)
        · exact Fr.Sub.cons rfl (Fr.Sub.cons rfl (Fr.Sub.cons rfl (Fr.Sub.cons rfl (Fr.Sub.cons rfl (Fr.Sub.nil _)))))
        · exact HSub.pick 0 rfl (HSub.pick 0 rfl (HSub.pick 0 rfl (HSub.pick 0 rfl (HSub.pick 0 rfl (HSub.pick 0 rfl (HSub.pick 0 rfl (HSub.nil _)))))))
    · have h38 := of_decide_eq_false h38
      obtain rfl : c = d.cross.length := by omega
      obtain ⟨bs, rfl, hbs, rs, hRS, hrs⟩ := hI.done hS hP hfull
      refine RunC.exit ?_
      refine Ends.then_exit ?_
      refine Ends.then_exit ?_
      refine Ends.block_exit ?_
      refine Ends.then ?_
      refine RunC.seq ?_
      refine RunC.region ?_
      refine RunL.still rfl rfl rfl (Still.move rfl rfl) ?_
      refine RunL.does rfl rfl rfl (Does.call (vs := #[_, _]) (K := [_]) (R := [_, _, _, _, _, _]) (S' := _) rfl rfl Tryz.call49 (HSub.pick 0 rfl (HSub.pick 0 rfl (HSub.pick 0 rfl (HSub.pick 0 rfl (HSub.pick 0 rfl (HSub.pick 0 rfl (HSub.pick 0 rfl (HSub.nil _)))))))) (fun c h => h) (fun w hs => z_Sort b34 n bs az hbs (by rw [← hI.len, List.length_map]) (by omega) has w hs.left.hand (fun W ho => rows_keep (R := _) hs (i := 1 - 1) rfl ho))) (fun bs2 ⟨hp, hso⟩ => ?_)
      refine RunL.nil ?_
      refine Ends.then ?_
      refine RunC.seq ?_
      refine RunC.region ?_
      refine RunL.still rfl rfl rfl (Still.move rfl rfl) ?_
      refine RunL.still rfl rfl rfl (Still.nilCheck rfl rfl) ?_
      refine RunL.still rfl rfl rfl (Still.fieldAddrA (off := 0) rfl rfl Tryz.underlying89 rfl Tryz.sizeOf24 rfl) ?_
      refine RunL.still rfl rfl rfl (Still.fieldAddrA (off := 1) rfl rfl Tryz.underlying24 rfl Tryz.sizeOf3 rfl) ?_
      refine RunL.still rfl rfl rfl (Still.load (v := iv d.loops) rfl rfl Tryz.isAgg3 (fun _ hs => ((DgAt.of_own (hd.sym hs) (hs.at (i := 3) rfl) (hs.own (i := 4) rfl))).c1)) ?_
      refine RunL.still rfl rfl rfl (Still.build_1 (fun x0_0 => .agg #[.slice none 0 0, x0_0]) rfl rfl (fun _ => by kernel_rfl)) ?_
      refine RunL.grows rfl rfl rfl (Grows.alloc rfl Tryz.zeroValue24) (fun b13 _ => ?_)
      refine RunL.does0 rfl rfl (Does.store rfl rfl rfl (i := 0) rfl Tryz.sizeOf24 rfl (rfl) rfl) (fun _ _ => ?_)
      refine RunL.conv (fun _ hs => hs.re 0 rfl (show _ = HL.obj b13 (.cells #[.slice none 0 0, iv d.loops] 24 (0, 0)) from rfl)) ?_
      refine RunL.nil ?_
      refine Ends.then ?_
      refine RunC.seq ?_
      refine RunC.seq ?_
      refine RunC.own_nil 62 5 ?_
      refine RunC.region ?_
      have hcan := sorted_can hRS hrs hp hso
      have hbl : bs2.length = n := by rw [hp.length_eq, ← hI.len, List.length_map]
      have htot := dg_Canonical_hd hS hcan
      have hFl : ∀ i, (flatTo bs2 i).length ≤ 200 := fun i => by have := flatTo_le bs2 i; omega
      refine RunL.still rfl rfl rfl (Still.move rfl rfl) ?_
      refine RunL.still rfl rfl rfl (Still.lenOwn rfl rfl Tryz.underlying82 (fun _ hs => hs.own (i := 2) rfl)) ?_
      refine RunL.still rfl rfl rfl (Still.move rfl rfl) ?_
      refine RunL.nil ?_
      refine Ends.then ?_
      refine RunC.block ?_
      refine RunC.loop2 (γ := Value × Nat) (keep := [(2, _), (13, _), (77, _), (78, _)]) (hkeep := [_, _, _, _, _, _, _]) (fun (x, i) => i ≤ n) (fun (x, i) => n - i) (fun (x, i) => [(79, iv i)]) (fun (x, i) => [HL.obj b13 (.cells #[x, iv d.loops] 24 (0, 0)), HL.own 62 5 x (flatTo bs2 i).length ((flatTo bs2 i).flatMap encCr)]) (.slice none 0 0, 0) (Nat.zero_le _) (Fr.Sub.cons rfl (Fr.Sub.nil _)) (Fr.Sub.cons rfl (Fr.Sub.cons rfl (Fr.Sub.cons rfl (Fr.Sub.cons rfl (Fr.Sub.nil _))))) (HSub.pick 1 rfl (HSub.pick 0 (by rw [flatTo_zero]; rfl) (HSub.pick 0 rfl (HSub.pick 0 rfl (HSub.pick 0 rfl (HSub.pick 0 rfl (HSub.pick 0 rfl (HSub.pick 0 rfl (HSub.pick 0 rfl (HSub.nil _)))))))))) ?_
      rintro ⟨x, i⟩ hi
      have hi : i ≤ n := hi
      refine RunC.seq ?_
      refine RunC.region ?_
      refine RunL.still rfl rfl rfl (Still.lss rfl rfl rfl) ?_
      refine RunL.nil ?_
      refine Ends.then ?_
      refine RunC.seq ?_
      refine RunC.cond rfl (fun h80 => ?_) (fun h80 => ?_)
      · have h80 := of_decide_eq_true h80
        obtain ⟨a, ha⟩ := get_of_lt (l := bs2) (i := i) (by omega)
        have haA := hbs a (hp.mem_iff.1 (List.mem_of_getElem? ha))
        obtain ⟨ja, hja⟩ := List.getElem?_of_mem haA
        obtain ⟨cw, way, hcw, hcode⟩ := sorted_code hS hRS hrs hp a (List.mem_of_getElem? ha)
        have hal : a.2.length ≤ 200 := has a haA
        have hFi := hFl i
        obtain ⟨sg, sc, hsl⟩ := hI.sl a haA
        have hash : Shape a.1 a.2.length := ⟨_, _, hsl, fun _ => by rw [hsl]; rfl⟩
        refine RunC.skip ?_
        refine Ends.then ?_
        refine RunC.seq ?_
        refine RunC.block ?_
        refine RunC.seq ?_
        refine RunC.region ?_
        refine RunL.still rfl rfl rfl (Still.indexOwn rfl rfl rfl Tryz.underlying82 Tryz.sizeOf83 (fun _ hs => hs.own (i := 2) rfl) (by omega)) ?_
        refine RunL.still rfl rfl rfl (Still.load rfl rfl Tryz.isAgg83 (fun w hs => own_at (hs.own (i := 2) rfl) ((by rw [Nat.mul_one, List.getElem?_map, ha]; rfl)))) ?_
        refine RunL.still rfl rfl rfl (Still.assign rfl rfl) ?_
        refine RunL.nil ?_
        refine Ends.then ?_
        refine RunC.seq ?_
        refine RunC.region ?_
        refine RunL.still rfl rfl rfl (Still.fieldAddrL (off := 0) (off' := 0) rfl rfl Tryz.underlying24 rfl Tryz.sizeOf22 rfl) ?_
        refine RunL.still rfl rfl rfl (Still.load rfl rfl Tryz.isAgg22 (fun _ hs => cell_nth (hs.at (i := 0) rfl) rfl)) ?_
        refine RunL.still rfl rfl rfl (Still.lenOwn rfl rfl Tryz.underlying22 (fun _ hs => hs.own (i := 1) rfl)) ?_
        refine RunL.still rfl rfl rfl (Still.mul rfl rfl rfl (fits64 (by omega) (by omega))) ?_
        refine RunL.still rfl rfl rfl (Still.assign rfl rfl) ?_
        refine RunL.nil ?_
        refine Ends.then ?_
        refine RunC.seq ?_
        refine RunC.region ?_
        refine RunL.still rfl rfl rfl (Still.move rfl rfl) ?_
        refine RunL.still rfl rfl rfl (Still.lenV rfl rfl Tryz.underlying83 (hash)) ?_
        refine RunL.still rfl rfl rfl (Still.move rfl rfl) ?_
        refine RunL.nil ?_
        refine Ends.then ?_
        refine RunC.block ?_
        refine RunC.loop2 (γ := Value × Nat) (keep := [(2, _), (13, _), (16, _), (77, _), (78, _), (79, _), (87, _), (88, _)]) (hkeep := [_, _, _, _, _, _, _]) (fun (y4, j) => j ≤ a.2.length) (fun (y4, j) => a.2.length - j) (fun (y4, j) => [(89, iv j)]) (fun (y4, j) => [HL.obj b13 (.cells #[y4, iv d.loops] 24 (0, 0)), HL.own 62 5 y4 (flatTo bs2 i ++ (a.2.take j).map (shCr (2 * (flatTo bs2 i).length : Nat))).length ((flatTo bs2 i ++ (a.2.take j).map (shCr (2 * (flatTo bs2 i).length : Nat))).flatMap encCr)]) (x, 0) (Nat.zero_le _) (Fr.Sub.cons rfl (Fr.Sub.nil _)) (Fr.Sub.cons rfl (Fr.Sub.cons rfl (Fr.Sub.cons rfl (Fr.Sub.cons rfl (Fr.Sub.cons rfl (Fr.Sub.cons rfl (Fr.Sub.cons rfl (Fr.Sub.cons rfl (Fr.Sub.nil _))))))))) (HSub.pick 0 rfl (HSub.pick 0 (by simp) (HSub.pick 0 rfl (HSub.pick 0 rfl (HSub.pick 0 rfl (HSub.pick 0 rfl (HSub.pick 0 rfl (HSub.pick 0 rfl (HSub.pick 0 rfl (HSub.nil _)))))))))) ?_
        rintro ⟨y4, j⟩ hj
        have hj : j ≤ a.2.length := hj
        refine RunC.seq ?_
        refine RunC.region ?_
        refine RunL.still rfl rfl rfl (Still.lss rfl rfl rfl) ?_
        refine RunL.nil ?_
        refine Ends.then ?_
        refine RunC.seq ?_
        refine RunC.cond rfl (fun h90 => ?_) (fun h90 => ?_)
        · have h90 := of_decide_eq_true h90
          obtain ⟨y, hy⟩ := get_of_lt (l := a.2) (i := j) (by omega)
          have hya := codeOf_arc hS hcw (way := way) (y := y) (by rw [← hcode]; exact List.mem_of_getElem? hy)
          have y0 := hya 0 (by decide); have y1 := hya 1 (by decide); have y2 := hya 2 (by decide); have y3 := hya 3 (by decide)
          simp only [Cr.arc] at y0 y1 y2 y3
          have hFi := hFl i
          refine RunC.skip ?_
          refine Ends.then ?_
          refine RunC.seq ?_
          refine RunC.block ?_
          refine RunC.seq ?_
          refine RunC.region ?_
          refine RunL.still rfl rfl rfl (Still.indexV _ rfl rfl rfl Tryz.underlying83 Tryz.sizeOf91 (hash) (rfl) (by omega)) ?_
          refine RunL.still rfl rfl rfl (Still.loads rfl rfl Tryz.isAgg91 Tryz.sizeOf91 (vs := encCr y) rfl (fun _ hs => cells_part (own_all (rows_get (hs.at (i := 3) rfl) hja)) (fun j u h => flat_get encCr_len hy h))) ?_
          refine RunL.grows rfl rfl rfl (Grows.alloc rfl Tryz.zeroValue91) (fun b18 _ => ?_)
          refine RunL.does0 rfl rfl (Does.store rfl rfl rfl (i := 0) rfl Tryz.sizeOf91 rfl (rfl) rfl) (fun _ _ => ?_)
          refine RunL.conv (fun _ hs => hs.re 0 rfl (show _ = HL.obj b18 (.cells #[iv y.a0, iv y.a1, iv y.a2, iv y.a3, iv y.s] 91 (0, 0)) from rfl)) ?_
          refine RunL.nil ?_
          refine Ends.then ?_
          refine RunC.region ?_
          refine RunL.still rfl rfl rfl (Still.fieldAddrL (off := 0) (off' := 0) rfl rfl Tryz.underlying24 rfl Tryz.sizeOf22 rfl) ?_
          refine RunL.still rfl rfl rfl (Still.load rfl rfl Tryz.isAgg22 (fun _ hs => cell_nth (hs.at (i := 1) rfl) rfl)) ?_
          refine RunL.still rfl rfl rfl (Still.indexArrEL 0 rfl rfl rfl Tryz.underlying91 Tryz.sizeOf3 (rfl) (by omega)) ?_
          refine RunL.still rfl rfl rfl (Still.load (v := iv y.a0) rfl rfl Tryz.isAgg3 (fun _ hs => cell_nth (hs.at (i := 0) rfl) rfl)) ?_
          refine RunL.still rfl rfl rfl (Still.move rfl rfl) ?_
          refine RunL.still rfl rfl rfl (Still.add rfl rfl rfl (fits64 (by omega) (by omega))) ?_
          refine RunL.still rfl rfl rfl (Still.indexArrEL 1 rfl rfl rfl Tryz.underlying91 Tryz.sizeOf3 (rfl) (by omega)) ?_
          refine RunL.still rfl rfl rfl (Still.load (v := iv y.a1) rfl rfl Tryz.isAgg3 (fun _ hs => cell_nth (hs.at (i := 0) rfl) rfl)) ?_
          refine RunL.still rfl rfl rfl (Still.move rfl rfl) ?_
          refine RunL.still rfl rfl rfl (Still.add rfl rfl rfl (fits64 (by omega) (by omega))) ?_
          refine RunL.still rfl rfl rfl (Still.indexArrEL 2 rfl rfl rfl Tryz.underlying91 Tryz.sizeOf3 (rfl) (by omega)) ?_
          refine RunL.still rfl rfl rfl (Still.load (v := iv y.a2) rfl rfl Tryz.isAgg3 (fun _ hs => cell_nth (hs.at (i := 0) rfl) rfl)) ?_
          refine RunL.still rfl rfl rfl (Still.move rfl rfl) ?_
          refine RunL.still rfl rfl rfl (Still.add rfl rfl rfl (fits64 (by omega) (by omega))) ?_
          refine RunL.still rfl rfl rfl (Still.indexArrEL 3 rfl rfl rfl Tryz.underlying91 Tryz.sizeOf3 (rfl) (by omega)) ?_
          refine RunL.still rfl rfl rfl (Still.load (v := iv y.a3) rfl rfl Tryz.isAgg3 (fun _ hs => cell_nth (hs.at (i := 0) rfl) rfl)) ?_
          refine RunL.still rfl rfl rfl (Still.move rfl rfl) ?_
          refine RunL.still rfl rfl rfl (Still.add rfl rfl rfl (fits64 (by omega) (by omega))) ?_
          refine RunL.still rfl rfl rfl (Still.build_1_1_1_1 (fun x0_0 x1_0 x2_0 x3_0 => .agg #[x0_0, x1_0, x2_0, x3_0]) rfl rfl rfl rfl rfl (fun _ => by kernel_rfl)) ?_
          refine RunL.still rfl rfl rfl (Still.indexArrEL 4 rfl rfl rfl Tryz.underlying91 Tryz.sizeOf3 (rfl) (by omega)) ?_
          refine RunL.still rfl rfl rfl (Still.load (v := iv y.s) rfl rfl Tryz.isAgg3 (fun _ hs => cell_nth (hs.at (i := 0) rfl) rfl)) ?_
          refine RunL.still rfl rfl rfl (Still.build_4_1 (fun x0_0 x0_1 x0_2 x0_3 x1_0 => .agg #[x0_0, x0_1, x0_2, x0_3, x1_0]) rfl rfl rfl (fun _ => by kernel_rfl)) ?_
          refine RunL.grows rfl rfl rfl (Grows.slice1 rfl rfl Tryz.underlying22 Tryz.sizeOf62 rfl Tryz.zeroValue62 (by decide)) (fun b115 _ => ?_)
          refine RunL.does rfl rfl rfl (Does.appendTo (n' := (flatTo bs2 i ++ (a.2.take (j + 1)).map (shCr (2 * (flatTo bs2 i).length : Nat))).length) (xs' := ((flatTo bs2 i ++ (a.2.take (j + 1)).map (shCr (2 * (flatTo bs2 i).length : Nat))).flatMap encCr)) (news := [_, _, _, _, _]) rfl rfl rfl rfl (i := 3) rfl Tryz.underlying22 (by kernel_rfl : (_ : Option _) = some (some (.agg #[.int .i64 0, .int .i64 0, .int .i64 0, .int .i64 0, .int .i64 0]), 5, 40)) rfl rfl (fun _ hs => cells_nth (hs.at (i := 0) rfl) ⟨rfl, ⟨rfl, ⟨rfl, ⟨rfl, ⟨rfl, trivial⟩⟩⟩⟩⟩) rfl rfl ((by have := hFl i; simp [List.length_append, List.length_take]; omega)) ((by have := hFl i; simp [List.length_append, List.length_take]; omega)) ((by simp [List.length_append, List.length_take]; omega)) ((flat4 _ _ hy))) (fun v116 hv116 => ?_)
          refine RunL.know (fun _ hs => own_oneCell (hs.own (i := 3) rfl)) (fun h1v => ?_)
          refine RunL.still rfl rfl rfl (Still.fieldAddrL (off := 0) (off' := 0) rfl rfl Tryz.underlying24 rfl Tryz.sizeOf22 rfl) ?_
          refine RunL.does0 rfl rfl (Does.store1 rfl rfl rfl (i := 2) rfl Tryz.sizeOf22 (h1v) (rfl)) (fun _ _ => ?_)
          refine RunL.conv (fun _ hs => hs.re 2 rfl (show _ = HL.obj b13 (.cells #[v116, iv d.loops] 24 (0, 0)) from rfl)) ?_
          refine RunL.nil ?_
          refine Ends.block ?_
          refine Ends.then ?_
          refine RunC.region ?_
          refine RunL.still rfl rfl rfl (Still.add rfl rfl rfl (fits64 (by omega) (by omega))) ?_
          refine RunL.still rfl rfl rfl (Still.move rfl rfl) ?_
          refine RunL.nil ?_
          refine Ends.again (v116, j + 1) ?_ ?_ (Fr.Sub.app ?_ ?_) ?_
          · show j + 1 ≤ _; omega
          · show _ - (j + 1) < _ - j; omega
          · exact Fr.Sub.cons rfl (Fr.Sub.nil _)
          · exact Fr.Sub.cons rfl (Fr.Sub.cons rfl (Fr.Sub.cons rfl (Fr.Sub.cons rfl (Fr.Sub.cons rfl (Fr.Sub.cons rfl (Fr.Sub.cons rfl (Fr.Sub.cons rfl (Fr.Sub.nil _))))))))
          · exact HSub.pick 2 rfl (HSub.pick 2 rfl (HSub.pick 2 rfl (HSub.pick 2 rfl (HSub.pick 2 rfl (HSub.pick 2 rfl (HSub.pick 2 rfl (HSub.pick 2 rfl (HSub.pick 2 rfl (HSub.nil _)))))))))
        · have h90 := of_decide_eq_false h90
          obtain rfl : j = a.2.length := by omega
          refine RunC.exit ?_
          refine Ends.then_exit ?_
          refine Ends.then_exit ?_
          refine Ends.block_exit ?_
          refine Ends.block ?_
          refine Ends.then ?_
          refine RunC.region ?_
          refine RunL.still rfl rfl rfl (Still.add rfl rfl rfl (fits64 (by omega) (by omega))) ?_
          refine RunL.still rfl rfl rfl (Still.move rfl rfl) ?_
          refine RunL.nil ?_
          refine Ends.again (y4, i + 1) ?_ ?_ (Fr.Sub.app ?_ ?_) ?_
          · show i + 1 ≤ _; omega
          · show _ - (i + 1) < _ - i; omega
          · exact Fr.Sub.cons rfl (Fr.Sub.nil _)
          · exact Fr.Sub.cons rfl (Fr.Sub.cons rfl (Fr.Sub.cons rfl (Fr.Sub.cons rfl (Fr.Sub.nil _))))
          · exact HSub.pick 0 rfl (HSub.pick 0 (by rw [flatTo_succ2 ha]; rfl) (HSub.pick 0 rfl (HSub.pick 0 rfl (HSub.pick 0 rfl (HSub.pick 0 rfl (HSub.pick 0 rfl (HSub.pick 0 rfl (HSub.pick 0 rfl (HSub.nil _)))))))))
      · have h80 := of_decide_eq_false h80
        obtain rfl : n = i := by omega
        refine RunC.exit ?_
        refine Ends.then_exit ?_
        refine Ends.then_exit ?_
        refine Ends.block_exit ?_
        refine Ends.then ?_
        refine RunC.seq ?_
        refine RunC.region ?_
        refine RunL.know (fun _ hs => own_shape (hs.own (i := 1) rfl)) (fun hsh => ?_)
        obtain ⟨xb, xc, hxv, hxb⟩ := hsh
        subst hxv
        refine RunL.still rfl rfl rfl (Still.loads rfl rfl Tryz.isAgg24 Tryz.sizeOf24 (vs := [_, _]) rfl (fun _ hs => cells_nth (hs.at (i := 0) rfl) ⟨rfl, ⟨rfl, trivial⟩⟩)) ?_
        refine RunL.does0 rfl rfl (Does.store rfl rfl rfl (i := 7) rfl Tryz.sizeOf24 rfl (rfl) rfl) (fun _ _ => ?_)
        refine RunL.conv (fun _ hs => hs.re 7 rfl (show _ = HL.obj b2 (.cells #[.slice xb (flatTo bs2 n).length xc, iv d.loops] 24 (0, 0)) from rfl)) ?_
        refine RunL.still rfl rfl rfl (Still.assign rfl rfl) ?_
        refine RunL.nil ?_
        refine Ends.then ?_
        refine RunC.ret ?_
        have hall : canF d (bs2.map Prod.snd) = ⟨flatTo bs2 n, d.loops⟩ := by rw [← hbl, flatTo_all]; rfl
        refine Ends.leave (.inl rfl) (fun _ _ ok => results2 Tryz.results15 (Holds.cell rfl (fun _ hs => load_cells (vs := [_, _]) Tryz.isAgg24 Tryz.sizeOf24 rfl (cells_nth (hs.at (i := 7) rfl) ⟨rfl, ⟨rfl, trivial⟩⟩))) (Holds.tmp rfl) ok) (fun w1 hs => ?_)
        refine Ret.intro ((xb, xc), bs2.map Prod.snd) ⟨by show OKB (xb, xc) (canF d _).cross.length; rw [hall]; exact hxb, hcan⟩ (by show _ = Value.tuple #[diaV xb xc (canF d (bs2.map Prod.snd)), iv 0]; rw [hall]) ?_ hs
        show HSub [ownD (xb, xc) (canF d (bs2.map Prod.snd))] _
        rw [hall]
        exact HSub.pick 1 rfl (HSub.nil _)

theorem dg_Canonical_bad (base : Option Addr) (A : Addr) (cap : Nat) (d : Dia) (w : World) (hd : DiaAt w base A d) (hc : checkI d ≠ 0) : Gives Tryz.prog 15 #[diaV base cap d] w Nil (fun _ : Unit => True) (fun _ => .tuple #[.agg #[.slice none 0 0, iv 0], iv (checkI d)]) (fun _ => []) := by
  refine fn_of_run (S := Nil) (args := [diaV base cap d]) (n := 121) (L := []) Tryz.func15 rfl Tryz.ntmps15 (Nat.le_of_ble_eq_true rfl) (Sym.nil _ _) ?_
  change RunC _ _ _ [(0, _)] _
  refine RunC.seq ?_
  refine RunC.region ?_
  refine RunL.grows rfl rfl rfl (Grows.box rfl rfl) (fun b1 _ => ?_)
  refine RunL.grows rfl rfl rfl (Grows.alloc rfl Tryz.zeroValue24) (fun b2 _ => ?_)
  refine RunL.still rfl rfl rfl (Still.assign rfl rfl) ?_
  refine RunL.nil ?_
  refine Ends.then ?_
  refine RunC.seq ?_
  refine RunC.region ?_
  refine RunL.still rfl rfl rfl (Still.loads rfl rfl Tryz.isAgg24 Tryz.sizeOf24 (vs := [_, _]) rfl (fun _ hs => cells_nth (hs.at (i := 1) rfl) ⟨rfl, ⟨rfl, trivial⟩⟩)) ?_
  refine RunL.grows rfl rfl rfl (Grows.call (vs := #[_]) rfl rfl Tryz.call31 (fun w hs => dg_enter_bad base A cap d w (hd.sym hs) hc)) (fun _ _ => ?_)
  refine RunL.still rfl rfl rfl (Still.move rfl rfl) ?_
  refine RunL.still rfl rfl rfl (Still.extractN rfl rfl rfl) ?_
  refine RunL.still rfl rfl rfl (Still.extractN rfl rfl rfl) ?_
  refine RunL.still rfl rfl rfl (Still.assign rfl rfl) ?_
  refine RunL.still rfl rfl rfl (Still.assign rfl rfl) ?_
  refine RunL.nil ?_
  refine Ends.then ?_
  refine RunC.seq ?_
  refine RunC.seq ?_
  refine RunC.region ?_
  refine RunL.still rfl rfl rfl (Still.move rfl rfl) ?_
  refine RunL.still rfl rfl rfl (Still.neq rfl rfl rfl) ?_
  refine RunL.nil ?_
  refine Ends.then ?_
  refine RunC.cond rfl (fun h25 => ?_) (fun h25 => ?_)
  · have h25 := of_decide_eq_true h25
    refine RunC.seq ?_
    refine RunC.region ?_
    refine RunL.still rfl rfl rfl (Still.build_0 (.agg #[.slice none 0 0, .int .i64 0]) rfl (fun _ => by kernel_rfl)) ?_
    refine RunL.still rfl rfl rfl (Still.move rfl rfl) ?_
    refine RunL.does0 rfl rfl (Does.store rfl rfl rfl (i := 0) rfl Tryz.sizeOf24 rfl (rfl) rfl) (fun _ _ => ?_)
    refine RunL.conv (fun _ hs => hs.re 0 rfl (show _ = HL.obj b2 (.cells #[.slice none 0 0, iv 0] 24 (0, 0)) from rfl)) ?_
    refine RunL.still rfl rfl rfl (Still.assign rfl rfl) ?_
    refine RunL.nil ?_
    refine Ends.then ?_
    refine RunC.ret ?_
    refine Ends.then_ret ?_
    refine Ends.leave (.inl rfl) (fun _ _ ok => results2 Tryz.results15 (Holds.cell rfl (fun _ hs => load_cells (vs := [_, _]) Tryz.isAgg24 Tryz.sizeOf24 rfl (cells_nth (hs.at (i := 0) rfl) ⟨rfl, ⟨rfl, trivial⟩⟩))) (Holds.tmp rfl) ok) (fun w1 hs => ?_)
    exact Ret.intro () trivial rfl (HSub.nil _) hs
  · have h25 := of_decide_eq_false h25
    exact absurd hc h25

end Go.Proofs
/- Unions and sums of the program, chapter 22. -/
namespace Go.Proofs
open Go Go.V
set_option maxRecDepth 20000
end Go.Proofs
/- Unions and sums of the program, chapter 22: the functions that check. -/
namespace Go.Proofs
open Go Go.V
set_option maxRecDepth 20000
end Go.Proofs
/- The statement DiagCanons: the walk. -/
namespace Go.Proofs
open Go Go.V
set_option maxRecDepth 20000
theorem ordB_eq (xs : List Int) (n : Nat) : ordB xs n = (decide (xs.length = n) && distB xs n) := by
  cases h : ordB xs n with
  | true => obtain ⟨h1, h2⟩ := ordB_dist.1 h; rw [decide_eq_true h1, h2]; rfl
  | false =>
    by_cases h1 : xs.length = n
    · cases h2 : distB xs n with
      | true => rw [ordB_dist.2 ⟨h1, h2⟩] at h; cases h
      | false => rw [Bool.and_false]
    · rw [decide_eq_false h1]; rfl

theorem lw_isOrder (ob : Option Addr) (OA : Addr) (oc : Nat) (xs : List Int) (n : Nat) (w : World) (hx : IntsAt w ob OA oc xs) : Gives Tryz.prog 18 #[lisV ob oc xs, iv n] w Nil (fun _ : Unit => True) (fun _ => .bool (ordB xs n)) (fun _ => []) := by
  have hle := hx.le
  have hln := hx.len
  refine fn_of_run (S := Nil) (args := [lisV ob oc xs, iv n]) (n := 14) (L := []) Tryz.func18 rfl Tryz.ntmps18 (Nat.le_of_ble_eq_true rfl) (Sym.nil _ _) ?_
  change RunC _ _ _ [(0, _), (1, _)] _
  refine RunC.seq ?_
  refine RunC.region ?_
  refine RunL.still rfl rfl rfl (Still.assign rfl rfl) ?_
  refine RunL.nil ?_
  refine Ends.then ?_
  refine RunC.seq ?_
  refine RunC.region ?_
  refine RunL.still rfl rfl rfl (Still.move rfl rfl) ?_
  refine RunL.still rfl rfl rfl (Still.lenV rfl rfl Tryz.underlying36 (hx.shape)) ?_
  refine RunL.still rfl rfl rfl (Still.move rfl rfl) ?_
  refine RunL.still rfl rfl rfl (Still.eql rfl rfl rfl) ?_
  refine RunL.still rfl rfl rfl (Still.move rfl rfl) ?_
  refine RunL.split (t := 9) rfl (fun h9 => ?_) (fun h9 => ?_)
  · have h9 := of_decide_eq_true h9
    refine RunL.still rfl rfl rfl (Still.move rfl rfl) ?_
    refine RunL.still rfl rfl rfl (Still.move rfl rfl) ?_
    refine RunL.grows rfl rfl rfl (Grows.call (vs := #[_, _]) rfl rfl Tryz.call56 (fun w hs => ref_Distinct ob OA oc xs n w (hx.sym hs) (by omega))) (fun _ _ => ?_)
    refine RunL.still rfl rfl rfl (Still.pickT rfl rfl rfl) ?_
    refine RunL.still rfl rfl rfl (Still.assign rfl rfl) ?_
    refine RunL.nil ?_
    refine Ends.then ?_
    refine RunC.ret ?_
    refine Ends.leave (.inl rfl) (fun _ _ ok => results1 Tryz.results18 (Holds.tmp rfl) ok) (fun w1 hs => ?_)
    exact Ret.intro () trivial (congrArg Value.bool (by rw [ordB_eq, decide_eq_true (by omega), Bool.true_and])) (HSub.nil _) hs
  · have h9 := of_decide_eq_false h9
    refine RunL.off rfl rfl rfl ?_
    refine RunL.off rfl rfl rfl ?_
    refine RunL.off rfl rfl rfl ?_
    refine RunL.still rfl rfl rfl (Still.pickF rfl rfl rfl) ?_
    refine RunL.still rfl rfl rfl (Still.assign rfl rfl) ?_
    refine RunL.nil ?_
    refine Ends.then ?_
    refine RunC.ret ?_
    refine Ends.leave (.inl rfl) (fun _ _ ok => results1 Tryz.results18 (Holds.tmp rfl) ok) (fun w2 hs => ?_)
    exact Ret.intro () trivial (congrArg Value.bool (by rw [ordB_eq, decide_eq_false (by omega), Bool.false_and])) (HSub.nil _) hs

theorem ref_Renumber (base : Option Addr) (A : Addr) (cap : Nat) (d : Dia) (ob : Option Addr) (OA : Addr) (oc : Nat) (xs : List Int) (yb : Option Addr) (YA : Addr) (yc : Nat) (ys : List Int) (w : World) (hd : DiaAt w base A d) (hx : IntsAt w ob OA oc xs) (hy : IntsAt w yb YA yc ys) (hS : SoundP d) (h1 : ordB xs d.cross.length = true) (h2 : ordB ys (2 * d.cross.length : Nat) = true) : Gives Tryz.prog 19 #[diaV base cap d, lisV ob oc xs, lisV yb yc ys] w Nil (fun q : Option Addr × Nat => OKB q (renD d xs ys).cross.length) (fun q => diaV q.1 q.2 (renD d xs ys)) (fun q => [ownD q (renD d xs ys)]) := by
  have h200 := hS.1
  have l1 := (ordB_iff.1 h1).1
  have l2 := (ordB_iff.1 h2).1
  refine fn_of_run (S := Nil) (args := [diaV base cap d, lisV ob oc xs, lisV yb yc ys]) (n := 49) (L := []) Tryz.func19 rfl Tryz.ntmps19 (Nat.le_of_ble_eq_true rfl) (Sym.nil _ _) ?_
  change RunC _ _ _ [(0, _), (1, _), (2, _)] _
  refine RunC.seq ?_
  refine RunC.region ?_
  refine RunL.grows rfl rfl rfl (Grows.box rfl rfl) (fun b3 _ => ?_)
  refine RunL.grows rfl rfl rfl (Grows.alloc rfl Tryz.zeroValue24) (fun b6 _ => ?_)
  refine RunL.nil ?_
  refine Ends.then ?_
  refine RunC.seq ?_
  refine RunC.region ?_
  refine RunL.still rfl rfl rfl (Still.fieldAddrL (off := 0) (off' := 1) rfl rfl Tryz.underlying24 rfl Tryz.sizeOf3 rfl) ?_
  refine RunL.still rfl rfl rfl (Still.load rfl rfl Tryz.isAgg3 (fun _ hs => cell_nth (hs.at (i := 1) rfl) rfl)) ?_
  refine RunL.still rfl rfl rfl (Still.build_1 (fun x0_0 => .agg #[.slice none 0 0, x0_0]) rfl rfl (fun _ => by kernel_rfl)) ?_
  refine RunL.grows rfl rfl rfl (Grows.alloc rfl Tryz.zeroValue24) (fun b7 _ => ?_)
  refine RunL.does0 rfl rfl (Does.store rfl rfl rfl (i := 0) rfl Tryz.sizeOf24 rfl (rfl) rfl) (fun _ _ => ?_)
  refine RunL.conv (fun _ hs => hs.re 0 rfl (show _ = HL.obj b7 (.cells #[.slice none 0 0, iv d.loops] 24 (0, 0)) from rfl)) ?_
  refine RunL.nil ?_
  refine Ends.then ?_
  refine RunC.seq ?_
  refine RunC.seq ?_
  refine RunC.own_nil 62 5 ?_
  refine RunC.region ?_
  refine RunL.still rfl rfl rfl (Still.assign rfl rfl) ?_
  refine RunL.nil ?_
  refine Ends.then ?_
  refine RunC.block ?_
  refine RunC.loop2 (γ := Value × Nat) (keep := [(1, _), (2, _), (3, _), (6, _), (7, _)]) (hkeep := [_, _]) (fun (v, i) => i ≤ xs.length) (fun (v, i) => xs.length - i) (fun (v, i) => [(8, iv i)]) (fun (v, i) => [HL.obj b7 (.cells #[v, iv d.loops] 24 (0, 0)), HL.own 62 5 v i ((rnTo d xs ys i).flatMap encCr)]) (.slice none 0 0, 0) (Nat.zero_le _) (Fr.Sub.cons rfl (Fr.Sub.nil _)) (Fr.Sub.cons rfl (Fr.Sub.cons rfl (Fr.Sub.cons rfl (Fr.Sub.cons rfl (Fr.Sub.cons rfl (Fr.Sub.nil _)))))) (HSub.pick 1 rfl (HSub.pick 0 rfl (HSub.pick 0 rfl (HSub.pick 0 rfl (HSub.nil _))))) ?_
  rintro ⟨v, i⟩ hi
  have hi : i ≤ xs.length := hi
  refine RunC.seq ?_
  refine RunC.seq ?_
  refine RunC.region ?_
  refine RunL.still rfl rfl rfl (Still.move rfl rfl) ?_
  refine RunL.still rfl rfl rfl (Still.move rfl rfl) ?_
  refine RunL.still rfl rfl rfl (Still.lenV rfl rfl Tryz.underlying36 (hx.shape)) ?_
  refine RunL.still rfl rfl rfl (Still.lss rfl rfl rfl) ?_
  refine RunL.nil ?_
  refine Ends.then ?_
  refine RunC.cond rfl (fun h17 => ?_) (fun h17 => ?_)
  · have h17 := of_decide_eq_true h17
    obtain ⟨x, hxi⟩ := get_of_lt (l := xs) (i := i) (by omega)
    have hxr := (ordB_mem h1).1 (List.mem_of_getElem? hxi)
    obtain ⟨c, rfl⟩ : ∃ c : Nat, x = (c : Int) := ⟨x.toNat, by omega⟩
    have hcN : c < d.cross.length := by omega
    refine RunC.skip ?_
    refine Ends.then ?_
    refine RunC.seq ?_
    refine RunC.block ?_
    refine RunC.seq ?_
    refine RunC.draw 9 (.still 0 (.still 1 (.still 2 (.still 3 (.still 4 (.still 5 (.still 6 (.still 7 (.one 8 .done))))))))) (by kernel_rfl) (by kernel_rfl) ?_
    refine RunG.still rfl rfl rfl rfl (Still.fieldAddrL (off := 0) (off' := 0) rfl rfl Tryz.underlying24 rfl Tryz.sizeOf22 rfl) ?_
    refine RunG.still rfl rfl rfl rfl (Still.load rfl rfl Tryz.isAgg22 (fun _ hs => cell_nth (hs.at (i := 3) rfl) rfl)) ?_
    refine RunG.still rfl rfl rfl rfl (Still.move rfl rfl) ?_
    refine RunG.still rfl rfl rfl rfl (Still.move rfl rfl) ?_
    refine RunG.still rfl rfl rfl rfl (Still.indexV _ rfl rfl rfl Tryz.underlying36 Tryz.sizeOf3 (hx.shape) (rfl) (by omega)) ?_
    refine RunG.still rfl rfl rfl rfl (Still.load rfl rfl Tryz.isAgg3 (fun _ hs => cells_at ((hx.sym hs).cells _) (ints_get hxi))) ?_
    refine RunG.still rfl rfl rfl rfl (Still.indexSliceN rfl rfl rfl Tryz.underlying22 Tryz.sizeOf62 (hd.base (by omega)) (by omega)) ?_
    refine RunG.still rfl rfl rfl rfl (Still.loads rfl rfl Tryz.isAgg62 Tryz.sizeOf62 (vs := encCr (crAt d c)) rfl (fun _ hs => Cells.base0 (hd.cross (crAt_get hcN)) hs)) ?_
    refine RunG.grows rfl rfl rfl rfl (Grows.alloc rfl Tryz.zeroValue62) (fun b9 _ => ?_)
    refine RunG.done ?_
    show RunL _ _ _ [_] _ _
    refine RunL.does0 rfl rfl (Does.store rfl rfl rfl (i := 0) rfl Tryz.sizeOf62 rfl (rfl) rfl) (fun _ _ => ?_)
    refine RunL.conv (fun _ hs => hs.re 0 rfl (show _ = HL.obj b9 (.cells #[iv (crAt d c).a0, iv (crAt d c).a1, iv (crAt d c).a2, iv (crAt d c).a3, iv (crAt d c).s] 62 (0, 0)) from rfl)) ?_
    refine RunL.nil ?_
    refine Ends.then ?_
    refine RunC.seq ?_
    refine RunC.seq ?_
    refine RunC.region ?_
    refine RunL.still rfl rfl rfl (Still.assign rfl rfl) ?_
    refine RunL.nil ?_
    refine Ends.then ?_
    refine RunC.block ?_
    refine RunC.loop2 (γ := Nat) (keep := [(1, _), (2, _), (3, _), (6, _), (7, _), (8, _), (9, _)]) (hkeep := [_, _, _, _]) (fun p => p ≤ 4) (fun p => 4 - p) (fun p => [(10, iv p)]) (fun p => [HL.obj b9 (.cells (mixArr (newA ys) (crAt d c) p) 62 (0, 0))]) 0 (Nat.zero_le _) (Fr.Sub.cons rfl (Fr.Sub.nil _)) (Fr.Sub.cons rfl (Fr.Sub.cons rfl (Fr.Sub.cons rfl (Fr.Sub.cons rfl (Fr.Sub.cons rfl (Fr.Sub.cons rfl (Fr.Sub.cons rfl (Fr.Sub.nil _)))))))) (HSub.pick 0 rfl (HSub.pick 0 rfl (HSub.pick 0 rfl (HSub.pick 0 rfl (HSub.pick 0 rfl (HSub.nil _)))))) ?_
    rintro p hp
    refine RunC.seq ?_
    refine RunC.seq ?_
    refine RunC.region ?_
    refine RunL.still rfl rfl rfl (Still.move rfl rfl) ?_
    refine RunL.still rfl rfl rfl (Still.lss rfl rfl rfl) ?_
    refine RunL.nil ?_
    refine Ends.then ?_
    refine RunC.cond rfl (fun h29 => ?_) (fun h29 => ?_)
    · have h29 := of_decide_eq_true h29
      have hp4 : p < 4 := by omega
      have hpa := hS.arc hcN hp4
      obtain ⟨yv, hyv⟩ := get_of_lt (l := ys) (i := ((crAt d c).arc p).toNat) (by omega)
      have hyr := (ordB_mem h2).1 (List.mem_of_getElem? hyv)
      have hyn : yv = (newA ys ((crAt d c).arc p).toNat : Int) := by rw [newA, List.getD_eq_getElem?_getD, hyv]; simp only [Option.getD_some]; omega
      subst hyn
      refine RunC.skip ?_
      refine Ends.then ?_
      refine RunC.seq ?_
      refine RunC.block ?_
      refine RunC.region ?_
      refine RunL.still rfl rfl rfl (Still.move rfl rfl) ?_
      refine RunL.still rfl rfl rfl (Still.move rfl rfl) ?_
      refine RunL.still rfl rfl rfl (Still.move rfl rfl) ?_
      refine RunL.still rfl rfl rfl (Still.fieldAddrL (off := 0) (off' := 0) rfl rfl Tryz.underlying62 rfl Tryz.sizeOf60 rfl) ?_
      refine RunL.still rfl rfl rfl (Still.indexArrNL rfl rfl rfl Tryz.underlying60 Tryz.sizeOf3 (by omega)) ?_
      refine RunL.still rfl rfl rfl (Still.load (v := iv ((((crAt d c).arc p).toNat : Nat) : Int)) rfl rfl Tryz.isAgg3 (fun _ hs => cell_nth (hs.at (i := 0) rfl) ((mixArr_get (newA ys) (crAt d c) hp4).trans (congrArg (fun z => some (iv z)) (Int.toNat_of_nonneg hpa.1).symm)))) ?_
      refine RunL.still rfl rfl rfl (Still.indexV _ rfl rfl rfl Tryz.underlying36 Tryz.sizeOf3 (hy.shape) (rfl) (by omega)) ?_
      refine RunL.still rfl rfl rfl (Still.load rfl rfl Tryz.isAgg3 (fun _ hs => cells_at ((hy.sym hs).cells _) (ints_get hyv))) ?_
      refine RunL.still rfl rfl rfl (Still.fieldAddrL (off := 0) (off' := 0) rfl rfl Tryz.underlying62 rfl Tryz.sizeOf60 rfl) ?_
      refine RunL.still rfl rfl rfl (Still.indexArrNL rfl rfl rfl Tryz.underlying60 Tryz.sizeOf3 (by omega)) ?_
      refine RunL.does0 rfl rfl (Does.store1 rfl rfl rfl (i := 0) rfl Tryz.sizeOf3 rfl (Nat.ble_eq_true_of_le (show 0 + p * 1 + 1 ≤ 5 by omega))) (fun _ _ => ?_)
      refine RunL.conv (fun _ hs => hs.re 0 rfl (show _ = HL.obj b9 (.cells (mixArr (newA ys) (crAt d c) (p + 1)) 62 (0, 0)) from congrArg (fun z => HL.obj b9 (.cells z 62 (0, 0))) (mixArr_set (newA ys) (crAt d c) hp4))) ?_
      refine RunL.nil ?_
      refine Ends.block ?_
      refine Ends.then ?_
      refine RunC.region ?_
      refine RunL.still rfl rfl rfl (Still.move rfl rfl) ?_
      refine RunL.still rfl rfl rfl (Still.add rfl rfl rfl (fits64 (by omega) (by omega))) ?_
      refine RunL.still rfl rfl rfl (Still.assign rfl rfl) ?_
      refine RunL.nil ?_
      refine Ends.again (p + 1) ?_ ?_ (Fr.Sub.app ?_ ?_) ?_
      · show _; omega
      · show _ < _; omega
      · exact Fr.Sub.cons rfl (Fr.Sub.nil _)
      · exact Fr.Sub.cons rfl (Fr.Sub.cons rfl (Fr.Sub.cons rfl (Fr.Sub.cons rfl (Fr.Sub.cons rfl (Fr.Sub.cons rfl (Fr.Sub.cons rfl (Fr.Sub.nil _)))))))
      · exact HSub.pick 0 rfl (HSub.pick 0 rfl (HSub.pick 0 rfl (HSub.pick 0 rfl (HSub.pick 0 rfl (HSub.nil _)))))
    · have h29 := of_decide_eq_false h29
      obtain rfl : p = 4 := by omega
      refine RunC.exit ?_
      refine Ends.then_exit ?_
      refine Ends.then_exit ?_
      refine Ends.block_exit ?_
      refine Ends.then ?_
      refine RunC.region ?_
      refine RunL.still rfl rfl rfl (Still.fieldAddrL (off := 0) (off' := 0) rfl rfl Tryz.underlying24 rfl Tryz.sizeOf22 rfl) ?_
      refine RunL.still rfl rfl rfl (Still.load rfl rfl Tryz.isAgg22 (fun _ hs => cell_nth (hs.at (i := 1) rfl) rfl)) ?_
      refine RunL.still rfl rfl rfl (Still.loads rfl rfl Tryz.isAgg62 Tryz.sizeOf62 (vs := [_, _, _, _, _]) rfl (fun _ hs => cells_nth (hs.at (i := 0) rfl) ⟨rfl, ⟨rfl, ⟨rfl, ⟨rfl, ⟨rfl, trivial⟩⟩⟩⟩⟩)) ?_
      refine RunL.grows rfl rfl rfl (Grows.slice1 rfl rfl Tryz.underlying22 Tryz.sizeOf62 rfl Tryz.zeroValue62 (by decide)) (fun b45 _ => ?_)
      refine RunL.does rfl rfl rfl (Does.appendTo (n' := (i + 1)) (xs' := ((rnTo d xs ys (i + 1)).flatMap encCr)) (news := [_, _, _, _, _]) rfl rfl rfl rfl (i := 3) rfl Tryz.underlying22 (by kernel_rfl : (_ : Option _) = some (some (.agg #[.int .i64 0, .int .i64 0, .int .i64 0, .int .i64 0, .int .i64 0]), 5, 40)) rfl rfl (fun _ hs => cells_nth (hs.at (i := 0) rfl) ⟨rfl, ⟨rfl, ⟨rfl, ⟨rfl, ⟨rfl, trivial⟩⟩⟩⟩⟩) rfl rfl (by omega) (by omega) (rfl) ((by rw [rnTo_succ hxi, List.flatMap_append]; rfl))) (fun v46 hv46 => ?_)
      refine RunL.know (fun _ hs => own_oneCell (hs.own (i := 3) rfl)) (fun h1v => ?_)
      refine RunL.still rfl rfl rfl (Still.fieldAddrL (off := 0) (off' := 0) rfl rfl Tryz.underlying24 rfl Tryz.sizeOf22 rfl) ?_
      refine RunL.does0 rfl rfl (Does.store1 rfl rfl rfl (i := 2) rfl Tryz.sizeOf22 (h1v) (rfl)) (fun _ _ => ?_)
      refine RunL.conv (fun _ hs => hs.re 2 rfl (show _ = HL.obj b7 (.cells #[v46, iv d.loops] 24 (0, 0)) from rfl)) ?_
      refine RunL.nil ?_
      refine Ends.block ?_
      refine Ends.then ?_
      refine RunC.region ?_
      refine RunL.still rfl rfl rfl (Still.move rfl rfl) ?_
      refine RunL.still rfl rfl rfl (Still.add rfl rfl rfl (fits64 (by omega) (by omega))) ?_
      refine RunL.still rfl rfl rfl (Still.assign rfl rfl) ?_
      refine RunL.nil ?_
      refine Ends.again (v46, i + 1) ?_ ?_ (Fr.Sub.app ?_ ?_) ?_
      · show i + 1 ≤ _; omega
      · show _ - (i + 1) < _ - i; omega
      · exact Fr.Sub.cons rfl (Fr.Sub.nil _)
      · exact Fr.Sub.cons rfl (Fr.Sub.cons rfl (Fr.Sub.cons rfl (Fr.Sub.cons rfl (Fr.Sub.cons rfl (Fr.Sub.nil _)))))
      · exact HSub.pick 2 rfl (HSub.pick 2 rfl (HSub.pick 2 rfl (HSub.pick 2 rfl (HSub.nil _))))
  · have h17 := of_decide_eq_false h17
    obtain rfl : i = xs.length := by omega
    refine RunC.exit ?_
    refine Ends.then_exit ?_
    refine Ends.then_exit ?_
    refine Ends.block_exit ?_
    refine Ends.then ?_
    refine RunC.seq ?_
    refine RunC.know (fun _ hs => own_shape (hs.own (i := 1) rfl)) (fun hsh => ?_)
    obtain ⟨xb, xc, hxv, hxb⟩ := hsh
    change v = _ at hxv
    subst hxv
    refine RunC.region ?_
    refine RunL.still rfl rfl rfl (Still.loads rfl rfl Tryz.isAgg24 Tryz.sizeOf24 (vs := [_, _]) rfl (fun _ hs => cells_nth (hs.at (i := 0) rfl) ⟨rfl, ⟨rfl, trivial⟩⟩)) ?_
    refine RunL.does0 rfl rfl (Does.store rfl rfl rfl (i := 2) rfl Tryz.sizeOf24 rfl (rfl) rfl) (fun _ _ => ?_)
    refine RunL.conv (fun _ hs => hs.re 2 rfl (show _ = HL.obj b6 (.cells #[.slice xb xs.length xc, iv d.loops] 24 (0, 0)) from rfl)) ?_
    refine RunL.nil ?_
    refine Ends.then ?_
    refine RunC.ret ?_
    have hrl : (renD d xs ys).cross.length = xs.length := by rw [← rnTo_all, rnTo_len (Nat.le_refl _)]
    refine Ends.leave (.inl rfl) (fun _ _ ok => results1 Tryz.results19 (Holds.cell rfl (fun _ hs => load_cells (vs := [_, _]) Tryz.isAgg24 Tryz.sizeOf24 rfl (cells_nth (hs.at (i := 2) rfl) ⟨rfl, ⟨rfl, trivial⟩⟩))) ok) (fun w1 hs => ?_)
    refine Ret.intro (xb, xc) (by show OKB (xb, xc) (renD d xs ys).cross.length; rw [hrl]; exact hxb) (by show _ = Value.agg #[.slice xb (renD d xs ys).cross.length xc, iv d.loops]; rw [hrl]) (HSub.pick 1 ?_ (HSub.nil _)) hs
    rw [ownD, hrl, ← rnTo_all]; rfl

end Go.Proofs
/- The statement DiagCanons: the walk. -/
namespace Go.Proofs
open Go Go.V
set_option maxRecDepth 20000
theorem z_Check0 (base : Option Addr) (A : Addr) (cap : Nat) (d : Dia) (w : World) (hd : DiaAt w base A d) (hc : checkI d = 0) : Gives Tryz.prog 8 #[diaV base cap d] w Nil (fun _ : Unit => True) (fun _ => iv 0) (fun _ => []) := by
  have h := ref_Check base A cap d w hd
  rwa [hc] at h

theorem lw_DiagCanons_big (base : Option Addr) (A : Addr) (cap : Nat) (d : Dia) (ob : Option Addr) (OA : Addr) (oc : Nat) (xs : List Int) (yb : Option Addr) (YA : Addr) (yc : Nat) (ys : List Int) (w : World) (hd : DiaAt w base A d) (_hx : IntsAt w ob OA oc xs) (_hy : IntsAt w yb YA yc ys) (_h8x : xs.length * 8 ≤ 140737488355328) (_h8y : ys.length * 8 ≤ 140737488355328) (hb : 16 < d.cross.length) : Gives Tryz.prog 4 #[diaV base cap d, lisV ob oc xs, lisV yb yc ys] w Nil (fun _ : Unit => True) (fun _ => .bool true) (fun _ => []) := by
  have hle := hd.len
  refine fn_of_run (S := Nil) (args := [diaV base cap d, lisV ob oc xs, lisV yb yc ys]) (n := 144) (L := []) Tryz.func4 rfl Tryz.ntmps4 (Nat.le_of_ble_eq_true rfl) (Sym.nil _ _) ?_
  change RunC _ _ _ [(0, _), (1, _), (2, _)] _
  refine RunC.seq ?_
  refine RunC.region ?_
  refine RunL.grows rfl rfl rfl (Grows.box rfl rfl) (fun b3 _ => ?_)
  refine RunL.still rfl rfl rfl (Still.assign rfl rfl) ?_
  refine RunL.nil ?_
  refine Ends.then ?_
  refine RunC.seq ?_
  refine RunC.seq ?_
  refine RunC.region ?_
  refine RunL.still rfl rfl rfl (Still.fieldAddrL (off := 0) (off' := 0) rfl rfl Tryz.underlying24 rfl Tryz.sizeOf22 rfl) ?_
  refine RunL.still rfl rfl rfl (Still.load rfl rfl Tryz.isAgg22 (fun _ hs => cell_nth (hs.at (i := 0) rfl) rfl)) ?_
  refine RunL.still rfl rfl rfl (Still.lenSlice rfl rfl Tryz.underlying22) ?_
  refine RunL.still rfl rfl rfl (Still.gtr rfl rfl rfl) ?_
  refine RunL.again (t := 19) (u := .bool true) rfl (congrArg Value.bool (decide_eq_true (by omega))) ?_
  refine RunL.nil ?_
  refine Ends.then ?_
  refine RunC.cond_true rfl ?_
  refine RunC.seq ?_
  refine RunC.region ?_
  refine RunL.still rfl rfl rfl (Still.assign rfl rfl) ?_
  refine RunL.nil ?_
  refine Ends.then ?_
  refine RunC.ret ?_
  refine Ends.then_ret ?_
  refine Ends.leave (.inl rfl) (fun _ _ ok => results1 Tryz.results4 (Holds.tmp rfl) ok) (fun w1 hs => ?_)
  exact Ret.intro () trivial rfl (HSub.nil _) hs

theorem lw_DiagCanons_bad (base : Option Addr) (A : Addr) (cap : Nat) (d : Dia) (ob : Option Addr) (OA : Addr) (oc : Nat) (xs : List Int) (yb : Option Addr) (YA : Addr) (yc : Nat) (ys : List Int) (w : World) (hd : DiaAt w base A d) (hx : IntsAt w ob OA oc xs) (hy : IntsAt w yb YA yc ys) (h8x : xs.length * 8 ≤ 140737488355328) (h8y : ys.length * 8 ≤ 140737488355328) (hb : ¬ 16 < d.cross.length) (hc : checkI d ≠ 0) : Gives Tryz.prog 4 #[diaV base cap d, lisV ob oc xs, lisV yb yc ys] w Nil (fun _ : Unit => True) (fun _ => .bool true) (fun _ => []) := by
  refine fn_of_run (S := Nil) (args := [diaV base cap d, lisV ob oc xs, lisV yb yc ys]) (n := 144) (L := []) Tryz.func4 rfl Tryz.ntmps4 (Nat.le_of_ble_eq_true rfl) (Sym.nil _ _) ?_
  change RunC _ _ _ [(0, _), (1, _), (2, _)] _
  refine RunC.seq ?_
  refine RunC.region ?_
  refine RunL.grows rfl rfl rfl (Grows.box rfl rfl) (fun b3 _ => ?_)
  refine RunL.still rfl rfl rfl (Still.assign rfl rfl) ?_
  refine RunL.nil ?_
  refine Ends.then ?_
  refine RunC.seq ?_
  refine RunC.seq ?_
  refine RunC.region ?_
  refine RunL.still rfl rfl rfl (Still.fieldAddrL (off := 0) (off' := 0) rfl rfl Tryz.underlying24 rfl Tryz.sizeOf22 rfl) ?_
  refine RunL.still rfl rfl rfl (Still.load rfl rfl Tryz.isAgg22 (fun _ hs => cell_nth (hs.at (i := 0) rfl) rfl)) ?_
  refine RunL.still rfl rfl rfl (Still.lenSlice rfl rfl Tryz.underlying22) ?_
  refine RunL.still rfl rfl rfl (Still.gtr rfl rfl rfl) ?_
  refine RunL.again (t := 19) (u := .bool false) rfl (congrArg Value.bool (decide_eq_false (by omega))) ?_
  refine RunL.nil ?_
  refine Ends.then ?_
  refine RunC.cond_false rfl ?_
  refine RunC.skip ?_
  refine Ends.then ?_
  refine RunC.seq ?_
  refine RunC.region ?_
  refine RunL.still rfl rfl rfl (Still.loads rfl rfl Tryz.isAgg24 Tryz.sizeOf24 (vs := [_, _]) rfl (fun _ hs => cells_nth (hs.at (i := 0) rfl) ⟨rfl, ⟨rfl, trivial⟩⟩)) ?_
  refine RunL.grows rfl rfl rfl (Grows.call (vs := #[_]) rfl rfl Tryz.call15 (fun w hs => dg_Canonical_bad base A cap d w (hd.sym hs) hc)) (fun _ _ => ?_)
  refine RunL.still rfl rfl rfl (Still.move rfl rfl) ?_
  refine RunL.still rfl rfl rfl (Still.extractN rfl rfl rfl) ?_
  refine RunL.still rfl rfl rfl (Still.extractN rfl rfl rfl) ?_
  refine RunL.grows rfl rfl rfl (Grows.alloc rfl Tryz.zeroValue24) (fun b7 _ => ?_)
  refine RunL.does0 rfl rfl (Does.store rfl rfl rfl (i := 0) rfl Tryz.sizeOf24 rfl (rfl) rfl) (fun _ _ => ?_)
  refine RunL.still rfl rfl rfl (Still.assign rfl rfl) ?_
  refine RunL.nil ?_
  refine Ends.then ?_
  refine RunC.seq ?_
  refine RunC.region ?_
  refine RunL.still rfl rfl rfl (Still.loads rfl rfl Tryz.isAgg24 Tryz.sizeOf24 (vs := [_, _]) rfl (fun _ hs => cells_nth (hs.at (i := 1) rfl) ⟨rfl, ⟨rfl, trivial⟩⟩)) ?_
  refine RunL.still rfl rfl rfl (Still.move rfl rfl) ?_
  refine RunL.still rfl rfl rfl (Still.move rfl rfl) ?_
  refine RunL.grows rfl rfl rfl (Grows.call (vs := #[_, _, _]) rfl rfl Tryz.call16 (fun w hs => dg_Renumber_bad base A cap d ob OA oc xs yb YA yc ys w (hd.sym hs) (hx.sym hs) (hy.sym hs) h8x h8y hc)) (fun _ _ => ?_)
  refine RunL.still rfl rfl rfl (Still.move rfl rfl) ?_
  refine RunL.still rfl rfl rfl (Still.extractN rfl rfl rfl) ?_
  refine RunL.still rfl rfl rfl (Still.extractN rfl rfl rfl) ?_
  refine RunL.grows rfl rfl rfl (Grows.alloc rfl Tryz.zeroValue24) (fun b9 _ => ?_)
  refine RunL.does0 rfl rfl (Does.store rfl rfl rfl (i := 0) rfl Tryz.sizeOf24 rfl (rfl) rfl) (fun _ _ => ?_)
  refine RunL.still rfl rfl rfl (Still.assign rfl rfl) ?_
  refine RunL.nil ?_
  refine Ends.then ?_
  refine RunC.seq ?_
  refine RunC.seq ?_
  refine RunC.region ?_
  refine RunL.still rfl rfl rfl (Still.loads rfl rfl Tryz.isAgg24 Tryz.sizeOf24 (vs := [_, _]) rfl (fun _ hs => cells_nth (hs.at (i := 2) rfl) ⟨rfl, ⟨rfl, trivial⟩⟩)) ?_
  refine RunL.grows rfl rfl rfl (Grows.call (vs := #[_]) rfl rfl Tryz.call8 (fun w hs => ref_Check base A cap d w (hd.sym hs))) (fun _ _ => ?_)
  refine RunL.still rfl rfl rfl (Still.assign rfl rfl) ?_
  refine RunL.nil ?_
  refine Ends.then ?_
  refine RunC.seq ?_
  refine RunC.region ?_
  refine RunL.still rfl rfl rfl (Still.move rfl rfl) ?_
  refine RunL.still rfl rfl rfl (Still.neq rfl rfl rfl) ?_
  refine RunL.again (t := 35) (u := .bool true) rfl (congrArg Value.bool (decide_eq_true (hc))) ?_
  refine RunL.nil ?_
  refine Ends.then ?_
  refine RunC.cond_true rfl ?_
  refine RunC.seq ?_
  refine RunC.region ?_
  refine RunL.grows rfl rfl rfl (Grows.call (vs := #[]) rfl rfl Tryz.call13 (fun w hs => lw_sane w)) (fun _ _ => ?_)
  refine RunL.again (t := 36) (u := .bool true) rfl (rfl) ?_
  refine RunL.still rfl rfl rfl (Still.move rfl rfl) ?_
  refine RunL.still rfl rfl rfl (Still.move rfl rfl) ?_
  refine RunL.still rfl rfl rfl (Still.move rfl rfl) ?_
  refine RunL.still rfl rfl rfl (Still.eql rfl rfl rfl) ?_
  refine RunL.again (t := 40) (u := .bool true) rfl (congrArg Value.bool (decide_eq_true (rfl))) ?_
  refine RunL.still rfl rfl rfl (Still.pickT rfl rfl rfl) ?_
  refine RunL.still rfl rfl rfl (Still.move rfl rfl) ?_
  refine RunL.still rfl rfl rfl (Still.move rfl rfl) ?_
  refine RunL.still rfl rfl rfl (Still.move rfl rfl) ?_
  refine RunL.still rfl rfl rfl (Still.eql rfl rfl rfl) ?_
  refine RunL.again (t := 45) (u := .bool true) rfl (congrArg Value.bool (decide_eq_true (rfl))) ?_
  refine RunL.still rfl rfl rfl (Still.pickT rfl rfl rfl) ?_
  refine RunL.still rfl rfl rfl (Still.move rfl rfl) ?_
  refine RunL.still rfl rfl rfl (Still.fieldAddrL (off := 0) (off' := 0) rfl rfl Tryz.underlying24 rfl Tryz.sizeOf22 rfl) ?_
  refine RunL.still rfl rfl rfl (Still.load rfl rfl Tryz.isAgg22 (fun _ hs => cell_nth (hs.at (i := 1) rfl) rfl)) ?_
  refine RunL.still rfl rfl rfl (Still.lenSlice rfl rfl Tryz.underlying22) ?_
  refine RunL.still rfl rfl rfl (Still.eql rfl rfl rfl) ?_
  refine RunL.again (t := 51) (u := .bool true) rfl (rfl) ?_
  refine RunL.still rfl rfl rfl (Still.pickT rfl rfl rfl) ?_
  refine RunL.still rfl rfl rfl (Still.move rfl rfl) ?_
  refine RunL.still rfl rfl rfl (Still.fieldAddrL (off := 0) (off' := 0) rfl rfl Tryz.underlying24 rfl Tryz.sizeOf22 rfl) ?_
  refine RunL.still rfl rfl rfl (Still.load rfl rfl Tryz.isAgg22 (fun _ hs => cell_nth (hs.at (i := 0) rfl) rfl)) ?_
  refine RunL.still rfl rfl rfl (Still.lenSlice rfl rfl Tryz.underlying22) ?_
  refine RunL.still rfl rfl rfl (Still.eql rfl rfl rfl) ?_
  refine RunL.again (t := 57) (u := .bool true) rfl (rfl) ?_
  refine RunL.still rfl rfl rfl (Still.pickT rfl rfl rfl) ?_
  refine RunL.still rfl rfl rfl (Still.assign rfl rfl) ?_
  refine RunL.nil ?_
  refine Ends.then ?_
  refine RunC.ret ?_
  refine Ends.then_ret ?_
  refine Ends.leave (.inl rfl) (fun _ _ ok => results1 Tryz.results4 (Holds.tmp rfl) ok) (fun w1 hs => ?_)
  exact Ret.intro () trivial rfl (HSub.nil _) hs

theorem lw_DiagCanons_arg1 (base : Option Addr) (A : Addr) (cap : Nat) (d : Dia) (ob : Option Addr) (OA : Addr) (oc : Nat) (xs : List Int) (yb : Option Addr) (YA : Addr) (yc : Nat) (ys : List Int) (w : World) (hd : DiaAt w base A d) (hx : IntsAt w ob OA oc xs) (hy : IntsAt w yb YA yc ys) (h8x : xs.length * 8 ≤ 140737488355328) (h8y : ys.length * 8 ≤ 140737488355328) (hb : ¬ 16 < d.cross.length) (hc : checkI d = 0) (h1 : ordB xs d.cross.length = false) : Gives Tryz.prog 4 #[diaV base cap d, lisV ob oc xs, lisV yb yc ys] w Nil (fun _ : Unit => True) (fun _ => .bool true) (fun _ => []) := by
  obtain ⟨hS, hPl⟩ := checkI_ok.1 hc
  refine fn_of_run (S := Nil) (args := [diaV base cap d, lisV ob oc xs, lisV yb yc ys]) (n := 144) (L := []) Tryz.func4 rfl Tryz.ntmps4 (Nat.le_of_ble_eq_true rfl) (Sym.nil _ _) ?_
  change RunC _ _ _ [(0, _), (1, _), (2, _)] _
  refine RunC.seq ?_
  refine RunC.region ?_
  refine RunL.grows rfl rfl rfl (Grows.box rfl rfl) (fun b3 _ => ?_)
  refine RunL.still rfl rfl rfl (Still.assign rfl rfl) ?_
  refine RunL.nil ?_
  refine Ends.then ?_
  refine RunC.seq ?_
  refine RunC.seq ?_
  refine RunC.region ?_
  refine RunL.still rfl rfl rfl (Still.fieldAddrL (off := 0) (off' := 0) rfl rfl Tryz.underlying24 rfl Tryz.sizeOf22 rfl) ?_
  refine RunL.still rfl rfl rfl (Still.load rfl rfl Tryz.isAgg22 (fun _ hs => cell_nth (hs.at (i := 0) rfl) rfl)) ?_
  refine RunL.still rfl rfl rfl (Still.lenSlice rfl rfl Tryz.underlying22) ?_
  refine RunL.still rfl rfl rfl (Still.gtr rfl rfl rfl) ?_
  refine RunL.again (t := 19) (u := .bool false) rfl (congrArg Value.bool (decide_eq_false (by omega))) ?_
  refine RunL.nil ?_
  refine Ends.then ?_
  refine RunC.cond_false rfl ?_
  refine RunC.skip ?_
  refine Ends.then ?_
  refine RunC.seq ?_
  refine RunC.region ?_
  refine RunL.still rfl rfl rfl (Still.loads rfl rfl Tryz.isAgg24 Tryz.sizeOf24 (vs := [_, _]) rfl (fun _ hs => cells_nth (hs.at (i := 0) rfl) ⟨rfl, ⟨rfl, trivial⟩⟩)) ?_
  refine RunL.grows rfl rfl rfl (Grows.call (vs := #[_]) rfl rfl Tryz.call15 (fun w hs => dg_Canonical_ok base A cap d w (hd.sym hs) hc)) (fun ⟨⟨cb, cc⟩, L⟩ ⟨_, hL⟩ => ?_)
  have hL : IsCan d L := hL
  obtain ⟨sc, tc, hrc⟩ := can_ren hS hL
  have hSc := hrc.sound hS
  have hcc : checkI (canF d L) = 0 := checkI_ok.2 ⟨hSc, hrc.planar hS hPl⟩
  refine RunL.still rfl rfl rfl (Still.move rfl rfl) ?_
  refine RunL.still rfl rfl rfl (Still.extractN rfl rfl rfl) ?_
  refine RunL.still rfl rfl rfl (Still.extractN rfl rfl rfl) ?_
  refine RunL.grows rfl rfl rfl (Grows.alloc rfl Tryz.zeroValue24) (fun b7 _ => ?_)
  refine RunL.does0 rfl rfl (Does.store rfl rfl rfl (i := 0) rfl Tryz.sizeOf24 rfl (rfl) rfl) (fun _ _ => ?_)
  refine RunL.still rfl rfl rfl (Still.assign rfl rfl) ?_
  refine RunL.nil ?_
  refine Ends.then ?_
  refine RunC.seq ?_
  refine RunC.region ?_
  refine RunL.still rfl rfl rfl (Still.loads rfl rfl Tryz.isAgg24 Tryz.sizeOf24 (vs := [_, _]) rfl (fun _ hs => cells_nth (hs.at (i := 2) rfl) ⟨rfl, ⟨rfl, trivial⟩⟩)) ?_
  refine RunL.still rfl rfl rfl (Still.move rfl rfl) ?_
  refine RunL.still rfl rfl rfl (Still.move rfl rfl) ?_
  refine RunL.grows rfl rfl rfl (Grows.call (vs := #[_, _, _]) rfl rfl Tryz.call16 (fun w hs => dg_Renumber_arg1 base A cap d ob OA oc xs yb YA yc ys w (hd.sym hs) (hx.sym hs) (hy.sym hs) h8x h8y hc h1)) (fun _ _ => ?_)
  refine RunL.still rfl rfl rfl (Still.move rfl rfl) ?_
  refine RunL.still rfl rfl rfl (Still.extractN rfl rfl rfl) ?_
  refine RunL.still rfl rfl rfl (Still.extractN rfl rfl rfl) ?_
  refine RunL.grows rfl rfl rfl (Grows.alloc rfl Tryz.zeroValue24) (fun b9 _ => ?_)
  refine RunL.does0 rfl rfl (Does.store rfl rfl rfl (i := 0) rfl Tryz.sizeOf24 rfl (rfl) rfl) (fun _ _ => ?_)
  refine RunL.still rfl rfl rfl (Still.assign rfl rfl) ?_
  refine RunL.nil ?_
  refine Ends.then ?_
  refine RunC.seq ?_
  refine RunC.seq ?_
  refine RunC.region ?_
  refine RunL.still rfl rfl rfl (Still.loads rfl rfl Tryz.isAgg24 Tryz.sizeOf24 (vs := [_, _]) rfl (fun _ hs => cells_nth (hs.at (i := 3) rfl) ⟨rfl, ⟨rfl, trivial⟩⟩)) ?_
  refine RunL.grows rfl rfl rfl (Grows.call (vs := #[_]) rfl rfl Tryz.call8 (fun w hs => z_Check0 base A cap d w (hd.sym hs) hc)) (fun _ _ => ?_)
  refine RunL.still rfl rfl rfl (Still.assign rfl rfl) ?_
  refine RunL.nil ?_
  refine Ends.then ?_
  refine RunC.seq ?_
  refine RunC.region ?_
  refine RunL.still rfl rfl rfl (Still.move rfl rfl) ?_
  refine RunL.still rfl rfl rfl (Still.neq rfl rfl rfl) ?_
  refine RunL.again (t := 35) (u := .bool false) rfl (rfl) ?_
  refine RunL.nil ?_
  refine Ends.then ?_
  refine RunC.cond_false rfl ?_
  refine RunC.skip ?_
  refine Ends.then ?_
  refine RunC.seq ?_
  refine RunC.seq ?_
  refine RunC.draw 6 (.still 0 (.still 1 (.still 2 (.still 3 (.still 4 (.one 5 .done)))))) (by kernel_rfl) (by kernel_rfl) ?_
  refine RunG.still rfl rfl rfl rfl (Still.move rfl rfl) ?_
  refine RunG.still rfl rfl rfl rfl (Still.neq rfl rfl rfl) ?_
  refine RunG.again (t := 60) (u := .bool false) rfl (rfl) ?_
  refine RunG.still rfl rfl rfl rfl (Still.move rfl rfl) ?_
  refine RunG.still rfl rfl rfl rfl (Still.loads rfl rfl Tryz.isAgg24 Tryz.sizeOf24 (vs := [_, _]) rfl (fun _ hs => cells_nth (hs.at (i := 1) rfl) ⟨rfl, ⟨rfl, trivial⟩⟩)) ?_
  refine RunG.still rfl rfl rfl rfl (Still.loads rfl rfl Tryz.isAgg24 Tryz.sizeOf24 (vs := [_, _]) rfl (fun _ hs => cells_nth (hs.at (i := 3) rfl) ⟨rfl, ⟨rfl, trivial⟩⟩)) ?_
  refine RunG.grows rfl rfl rfl rfl (Grows.call (vs := #[_]) rfl rfl Tryz.call17 (fun w hs => ref_Canonical base A cap d w (hd.sym hs) hS)) (fun ⟨⟨kb, kc⟩, L3⟩ ⟨_, hL3⟩ => ?_)
  have e3 : L = L3 := hL.uniq hS hL3
  subst e3
  refine RunG.done ?_
  show RunL _ _ _ [_, _, _, _, _, _, _, _] _ _
  refine RunL.grows rfl rfl rfl (Grows.call (vs := #[_, _]) rfl rfl Tryz.call11 (fun w hs => ref_Same_eq cb kb _ _ cc kc (canF d L) (canF d L) w (DiaAt.of_ownD hSc (hs.at (i := 3) rfl)) (DiaAt.of_ownD hSc (hs.at (i := 0) rfl)) rfl)) (fun _ _ => ?_)
  refine RunL.again (t := 65) (u := .bool true) rfl (rfl) ?_
  refine RunL.still rfl rfl rfl (Still.not rfl rfl) ?_
  refine RunL.still rfl rfl rfl (Still.pickF rfl rfl rfl) ?_
  refine RunL.still rfl rfl rfl (Still.move rfl rfl) ?_
  refine RunL.still rfl rfl rfl (Still.loads rfl rfl Tryz.isAgg24 Tryz.sizeOf24 (vs := [_, _]) rfl (fun _ hs => cells_nth (hs.at (i := 2) rfl) ⟨rfl, ⟨rfl, trivial⟩⟩)) ?_
  refine RunL.grows rfl rfl rfl (Grows.call (vs := #[_]) rfl rfl Tryz.call8 (fun w hs => z_Check0 cb _ cc (canF d L) w (DiaAt.of_ownD hSc (hs.at (i := 3) rfl)) hcc)) (fun _ _ => ?_)
  refine RunL.still rfl rfl rfl (Still.neq rfl rfl rfl) ?_
  refine RunL.again (t := 71) (u := .bool false) rfl (rfl) ?_
  refine RunL.still rfl rfl rfl (Still.pickF rfl rfl rfl) ?_
  refine RunL.nil ?_
  refine Ends.then ?_
  refine RunC.cond_false rfl ?_
  refine RunC.skip ?_
  refine Ends.then ?_
  refine RunC.seq ?_
  refine RunC.region ?_
  refine RunL.still rfl rfl rfl (Still.loads rfl rfl Tryz.isAgg24 Tryz.sizeOf24 (vs := [_, _]) rfl (fun _ hs => cells_nth (hs.at (i := 2) rfl) ⟨rfl, ⟨rfl, trivial⟩⟩)) ?_
  refine RunL.grows rfl rfl rfl (Grows.call (vs := #[_]) rfl rfl Tryz.call15 (fun w hs => dg_Canonical_ok cb _ cc (canF d L) w (DiaAt.of_ownD hSc (hs.at (i := 3) rfl)) hcc)) (fun ⟨⟨nb, nc⟩, L2⟩ ⟨_, hL2⟩ => ?_)
  have e2 : L = L2 := (can_self hS hL).uniq hSc hL2
  subst e2
  refine RunL.still rfl rfl rfl (Still.move rfl rfl) ?_
  refine RunL.still rfl rfl rfl (Still.extractN rfl rfl rfl) ?_
  refine RunL.still rfl rfl rfl (Still.extractN rfl rfl rfl) ?_
  refine RunL.grows rfl rfl rfl (Grows.alloc rfl Tryz.zeroValue24) (fun b12 _ => ?_)
  refine RunL.does0 rfl rfl (Does.store rfl rfl rfl (i := 0) rfl Tryz.sizeOf24 rfl (rfl) rfl) (fun _ _ => ?_)
  refine RunL.still rfl rfl rfl (Still.assign rfl rfl) ?_
  refine RunL.nil ?_
  refine Ends.then ?_
  refine RunC.seq ?_
  refine RunC.seq ?_
  refine RunC.region ?_
  refine RunL.still rfl rfl rfl (Still.move rfl rfl) ?_
  refine RunL.still rfl rfl rfl (Still.neq rfl rfl rfl) ?_
  refine RunL.again (t := 79) (u := .bool false) rfl (rfl) ?_
  refine RunL.still rfl rfl rfl (Still.move rfl rfl) ?_
  refine RunL.still rfl rfl rfl (Still.loads rfl rfl Tryz.isAgg24 Tryz.sizeOf24 (vs := [_, _]) rfl (fun _ hs => cells_nth (hs.at (i := 0) rfl) ⟨rfl, ⟨rfl, trivial⟩⟩)) ?_
  refine RunL.still rfl rfl rfl (Still.loads rfl rfl Tryz.isAgg24 Tryz.sizeOf24 (vs := [_, _]) rfl (fun _ hs => cells_nth (hs.at (i := 4) rfl) ⟨rfl, ⟨rfl, trivial⟩⟩)) ?_
  refine RunL.grows rfl rfl rfl (Grows.call (vs := #[_, _]) rfl rfl Tryz.call11 (fun w hs => ref_Same_eq nb cb _ _ nc cc (canF d L) (canF d L) w (DiaAt.of_ownD hSc (hs.at (i := 1) rfl)) (DiaAt.of_ownD hSc (hs.at (i := 5) rfl)) rfl)) (fun _ _ => ?_)
  refine RunL.again (t := 83) (u := .bool true) rfl (rfl) ?_
  refine RunL.still rfl rfl rfl (Still.not rfl rfl) ?_
  refine RunL.still rfl rfl rfl (Still.pickF rfl rfl rfl) ?_
  refine RunL.nil ?_
  refine Ends.then ?_
  refine RunC.cond_false rfl ?_
  refine RunC.skip ?_
  refine Ends.then ?_
  refine RunC.seq ?_
  refine RunC.seq ?_
  refine RunC.region ?_
  refine RunL.still rfl rfl rfl (Still.move rfl rfl) ?_
  refine RunL.still rfl rfl rfl (Still.fieldAddrL (off := 0) (off' := 0) rfl rfl Tryz.underlying24 rfl Tryz.sizeOf22 rfl) ?_
  refine RunL.still rfl rfl rfl (Still.load rfl rfl Tryz.isAgg22 (fun _ hs => cell_nth (hs.at (i := 6) rfl) rfl)) ?_
  refine RunL.still rfl rfl rfl (Still.lenSlice rfl rfl Tryz.underlying22) ?_
  refine RunL.grows rfl rfl rfl (Grows.call (vs := #[_, _]) rfl rfl Tryz.call18 (fun w hs => lw_isOrder ob OA oc xs d.cross.length w (hx.sym hs))) (fun _ _ => ?_)
  refine RunL.again (t := 90) (u := .bool false) rfl (congrArg Value.bool h1) ?_
  refine RunL.still rfl rfl rfl (Still.not rfl rfl) ?_
  refine RunL.still rfl rfl rfl (Still.move rfl rfl) ?_
  refine RunL.off rfl rfl rfl ?_
  refine RunL.off rfl rfl rfl ?_
  refine RunL.off rfl rfl rfl ?_
  refine RunL.off rfl rfl rfl ?_
  refine RunL.off rfl rfl rfl ?_
  refine RunL.off rfl rfl rfl ?_
  refine RunL.off rfl rfl rfl ?_
  refine RunL.still rfl rfl rfl (Still.pickT rfl rfl rfl) ?_
  refine RunL.nil ?_
  refine Ends.then ?_
  refine RunC.cond_true rfl ?_
  refine RunC.seq ?_
  refine RunC.region ?_
  refine RunL.grows rfl rfl rfl (Grows.call (vs := #[]) rfl rfl Tryz.call13 (fun w hs => lw_sane w)) (fun _ _ => ?_)
  refine RunL.again (t := 101) (u := .bool true) rfl (rfl) ?_
  refine RunL.still rfl rfl rfl (Still.move rfl rfl) ?_
  refine RunL.still rfl rfl rfl (Still.move rfl rfl) ?_
  refine RunL.still rfl rfl rfl (Still.eql rfl rfl rfl) ?_
  refine RunL.again (t := 104) (u := .bool true) rfl (rfl) ?_
  refine RunL.still rfl rfl rfl (Still.pickT rfl rfl rfl) ?_
  refine RunL.still rfl rfl rfl (Still.move rfl rfl) ?_
  refine RunL.still rfl rfl rfl (Still.fieldAddrL (off := 0) (off' := 0) rfl rfl Tryz.underlying24 rfl Tryz.sizeOf22 rfl) ?_
  refine RunL.still rfl rfl rfl (Still.load rfl rfl Tryz.isAgg22 (fun _ hs => cell_nth (hs.at (i := 3) rfl) rfl)) ?_
  refine RunL.still rfl rfl rfl (Still.lenSlice rfl rfl Tryz.underlying22) ?_
  refine RunL.still rfl rfl rfl (Still.eql rfl rfl rfl) ?_
  refine RunL.again (t := 110) (u := .bool true) rfl (rfl) ?_
  refine RunL.still rfl rfl rfl (Still.pickT rfl rfl rfl) ?_
  refine RunL.still rfl rfl rfl (Still.assign rfl rfl) ?_
  refine RunL.nil ?_
  refine Ends.then ?_
  refine RunC.ret ?_
  refine Ends.then_ret ?_
  refine Ends.leave (.inl rfl) (fun _ _ ok => results1 Tryz.results4 (Holds.tmp rfl) ok) (fun w1 hs => ?_)
  exact Ret.intro () trivial rfl (HSub.nil _) hs

theorem lw_DiagCanons_arg2 (base : Option Addr) (A : Addr) (cap : Nat) (d : Dia) (ob : Option Addr) (OA : Addr) (oc : Nat) (xs : List Int) (yb : Option Addr) (YA : Addr) (yc : Nat) (ys : List Int) (w : World) (hd : DiaAt w base A d) (hx : IntsAt w ob OA oc xs) (hy : IntsAt w yb YA yc ys) (h8x : xs.length * 8 ≤ 140737488355328) (h8y : ys.length * 8 ≤ 140737488355328) (hb : ¬ 16 < d.cross.length) (hc : checkI d = 0) (h1 : ordB xs d.cross.length = true) (h2 : ordB ys (2 * d.cross.length : Nat) = false) : Gives Tryz.prog 4 #[diaV base cap d, lisV ob oc xs, lisV yb yc ys] w Nil (fun _ : Unit => True) (fun _ => .bool true) (fun _ => []) := by
  obtain ⟨hS, hPl⟩ := checkI_ok.1 hc
  refine fn_of_run (S := Nil) (args := [diaV base cap d, lisV ob oc xs, lisV yb yc ys]) (n := 144) (L := []) Tryz.func4 rfl Tryz.ntmps4 (Nat.le_of_ble_eq_true rfl) (Sym.nil _ _) ?_
  change RunC _ _ _ [(0, _), (1, _), (2, _)] _
  refine RunC.seq ?_
  refine RunC.region ?_
  refine RunL.grows rfl rfl rfl (Grows.box rfl rfl) (fun b3 _ => ?_)
  refine RunL.still rfl rfl rfl (Still.assign rfl rfl) ?_
  refine RunL.nil ?_
  refine Ends.then ?_
  refine RunC.seq ?_
  refine RunC.seq ?_
  refine RunC.region ?_
  refine RunL.still rfl rfl rfl (Still.fieldAddrL (off := 0) (off' := 0) rfl rfl Tryz.underlying24 rfl Tryz.sizeOf22 rfl) ?_
  refine RunL.still rfl rfl rfl (Still.load rfl rfl Tryz.isAgg22 (fun _ hs => cell_nth (hs.at (i := 0) rfl) rfl)) ?_
  refine RunL.still rfl rfl rfl (Still.lenSlice rfl rfl Tryz.underlying22) ?_
  refine RunL.still rfl rfl rfl (Still.gtr rfl rfl rfl) ?_
  refine RunL.again (t := 19) (u := .bool false) rfl (congrArg Value.bool (decide_eq_false (by omega))) ?_
  refine RunL.nil ?_
  refine Ends.then ?_
  refine RunC.cond_false rfl ?_
  refine RunC.skip ?_
  refine Ends.then ?_
  refine RunC.seq ?_
  refine RunC.region ?_
  refine RunL.still rfl rfl rfl (Still.loads rfl rfl Tryz.isAgg24 Tryz.sizeOf24 (vs := [_, _]) rfl (fun _ hs => cells_nth (hs.at (i := 0) rfl) ⟨rfl, ⟨rfl, trivial⟩⟩)) ?_
  refine RunL.grows rfl rfl rfl (Grows.call (vs := #[_]) rfl rfl Tryz.call15 (fun w hs => dg_Canonical_ok base A cap d w (hd.sym hs) hc)) (fun ⟨⟨cb, cc⟩, L⟩ ⟨_, hL⟩ => ?_)
  have hL : IsCan d L := hL
  obtain ⟨sc, tc, hrc⟩ := can_ren hS hL
  have hSc := hrc.sound hS
  have hcc : checkI (canF d L) = 0 := checkI_ok.2 ⟨hSc, hrc.planar hS hPl⟩
  refine RunL.still rfl rfl rfl (Still.move rfl rfl) ?_
  refine RunL.still rfl rfl rfl (Still.extractN rfl rfl rfl) ?_
  refine RunL.still rfl rfl rfl (Still.extractN rfl rfl rfl) ?_
  refine RunL.grows rfl rfl rfl (Grows.alloc rfl Tryz.zeroValue24) (fun b7 _ => ?_)
  refine RunL.does0 rfl rfl (Does.store rfl rfl rfl (i := 0) rfl Tryz.sizeOf24 rfl (rfl) rfl) (fun _ _ => ?_)
  refine RunL.still rfl rfl rfl (Still.assign rfl rfl) ?_
  refine RunL.nil ?_
  refine Ends.then ?_
  refine RunC.seq ?_
  refine RunC.region ?_
  refine RunL.still rfl rfl rfl (Still.loads rfl rfl Tryz.isAgg24 Tryz.sizeOf24 (vs := [_, _]) rfl (fun _ hs => cells_nth (hs.at (i := 2) rfl) ⟨rfl, ⟨rfl, trivial⟩⟩)) ?_
  refine RunL.still rfl rfl rfl (Still.move rfl rfl) ?_
  refine RunL.still rfl rfl rfl (Still.move rfl rfl) ?_
  refine RunL.grows rfl rfl rfl (Grows.call (vs := #[_, _, _]) rfl rfl Tryz.call16 (fun w hs => dg_Renumber_arg2 base A cap d ob OA oc xs yb YA yc ys w (hd.sym hs) (hx.sym hs) (hy.sym hs) h8x h8y hc h1 h2)) (fun _ _ => ?_)
  refine RunL.still rfl rfl rfl (Still.move rfl rfl) ?_
  refine RunL.still rfl rfl rfl (Still.extractN rfl rfl rfl) ?_
  refine RunL.still rfl rfl rfl (Still.extractN rfl rfl rfl) ?_
  refine RunL.grows rfl rfl rfl (Grows.alloc rfl Tryz.zeroValue24) (fun b9 _ => ?_)
  refine RunL.does0 rfl rfl (Does.store rfl rfl rfl (i := 0) rfl Tryz.sizeOf24 rfl (rfl) rfl) (fun _ _ => ?_)
  refine RunL.still rfl rfl rfl (Still.assign rfl rfl) ?_
  refine RunL.nil ?_
  refine Ends.then ?_
  refine RunC.seq ?_
  refine RunC.seq ?_
  refine RunC.region ?_
  refine RunL.still rfl rfl rfl (Still.loads rfl rfl Tryz.isAgg24 Tryz.sizeOf24 (vs := [_, _]) rfl (fun _ hs => cells_nth (hs.at (i := 3) rfl) ⟨rfl, ⟨rfl, trivial⟩⟩)) ?_
  refine RunL.grows rfl rfl rfl (Grows.call (vs := #[_]) rfl rfl Tryz.call8 (fun w hs => z_Check0 base A cap d w (hd.sym hs) hc)) (fun _ _ => ?_)
  refine RunL.still rfl rfl rfl (Still.assign rfl rfl) ?_
  refine RunL.nil ?_
  refine Ends.then ?_
  refine RunC.seq ?_
  refine RunC.region ?_
  refine RunL.still rfl rfl rfl (Still.move rfl rfl) ?_
  refine RunL.still rfl rfl rfl (Still.neq rfl rfl rfl) ?_
  refine RunL.again (t := 35) (u := .bool false) rfl (rfl) ?_
  refine RunL.nil ?_
  refine Ends.then ?_
  refine RunC.cond_false rfl ?_
  refine RunC.skip ?_
  refine Ends.then ?_
  refine RunC.seq ?_
  refine RunC.seq ?_
  refine RunC.draw 6 (.still 0 (.still 1 (.still 2 (.still 3 (.still 4 (.one 5 .done)))))) (by kernel_rfl) (by kernel_rfl) ?_
  refine RunG.still rfl rfl rfl rfl (Still.move rfl rfl) ?_
  refine RunG.still rfl rfl rfl rfl (Still.neq rfl rfl rfl) ?_
  refine RunG.again (t := 60) (u := .bool false) rfl (rfl) ?_
  refine RunG.still rfl rfl rfl rfl (Still.move rfl rfl) ?_
  refine RunG.still rfl rfl rfl rfl (Still.loads rfl rfl Tryz.isAgg24 Tryz.sizeOf24 (vs := [_, _]) rfl (fun _ hs => cells_nth (hs.at (i := 1) rfl) ⟨rfl, ⟨rfl, trivial⟩⟩)) ?_
  refine RunG.still rfl rfl rfl rfl (Still.loads rfl rfl Tryz.isAgg24 Tryz.sizeOf24 (vs := [_, _]) rfl (fun _ hs => cells_nth (hs.at (i := 3) rfl) ⟨rfl, ⟨rfl, trivial⟩⟩)) ?_
  refine RunG.grows rfl rfl rfl rfl (Grows.call (vs := #[_]) rfl rfl Tryz.call17 (fun w hs => ref_Canonical base A cap d w (hd.sym hs) hS)) (fun ⟨⟨kb, kc⟩, L3⟩ ⟨_, hL3⟩ => ?_)
  have e3 : L = L3 := hL.uniq hS hL3
  subst e3
  refine RunG.done ?_
  show RunL _ _ _ [_, _, _, _, _, _, _, _] _ _
  refine RunL.grows rfl rfl rfl (Grows.call (vs := #[_, _]) rfl rfl Tryz.call11 (fun w hs => ref_Same_eq cb kb _ _ cc kc (canF d L) (canF d L) w (DiaAt.of_ownD hSc (hs.at (i := 3) rfl)) (DiaAt.of_ownD hSc (hs.at (i := 0) rfl)) rfl)) (fun _ _ => ?_)
  refine RunL.again (t := 65) (u := .bool true) rfl (rfl) ?_
  refine RunL.still rfl rfl rfl (Still.not rfl rfl) ?_
  refine RunL.still rfl rfl rfl (Still.pickF rfl rfl rfl) ?_
  refine RunL.still rfl rfl rfl (Still.move rfl rfl) ?_
  refine RunL.still rfl rfl rfl (Still.loads rfl rfl Tryz.isAgg24 Tryz.sizeOf24 (vs := [_, _]) rfl (fun _ hs => cells_nth (hs.at (i := 2) rfl) ⟨rfl, ⟨rfl, trivial⟩⟩)) ?_
  refine RunL.grows rfl rfl rfl (Grows.call (vs := #[_]) rfl rfl Tryz.call8 (fun w hs => z_Check0 cb _ cc (canF d L) w (DiaAt.of_ownD hSc (hs.at (i := 3) rfl)) hcc)) (fun _ _ => ?_)
  refine RunL.still rfl rfl rfl (Still.neq rfl rfl rfl) ?_
  refine RunL.again (t := 71) (u := .bool false) rfl (rfl) ?_
  refine RunL.still rfl rfl rfl (Still.pickF rfl rfl rfl) ?_
  refine RunL.nil ?_
  refine Ends.then ?_
  refine RunC.cond_false rfl ?_
  refine RunC.skip ?_
  refine Ends.then ?_
  refine RunC.seq ?_
  refine RunC.region ?_
  refine RunL.still rfl rfl rfl (Still.loads rfl rfl Tryz.isAgg24 Tryz.sizeOf24 (vs := [_, _]) rfl (fun _ hs => cells_nth (hs.at (i := 2) rfl) ⟨rfl, ⟨rfl, trivial⟩⟩)) ?_
  refine RunL.grows rfl rfl rfl (Grows.call (vs := #[_]) rfl rfl Tryz.call15 (fun w hs => dg_Canonical_ok cb _ cc (canF d L) w (DiaAt.of_ownD hSc (hs.at (i := 3) rfl)) hcc)) (fun ⟨⟨nb, nc⟩, L2⟩ ⟨_, hL2⟩ => ?_)
  have e2 : L = L2 := (can_self hS hL).uniq hSc hL2
  subst e2
  refine RunL.still rfl rfl rfl (Still.move rfl rfl) ?_
  refine RunL.still rfl rfl rfl (Still.extractN rfl rfl rfl) ?_
  refine RunL.still rfl rfl rfl (Still.extractN rfl rfl rfl) ?_
  refine RunL.grows rfl rfl rfl (Grows.alloc rfl Tryz.zeroValue24) (fun b12 _ => ?_)
  refine RunL.does0 rfl rfl (Does.store rfl rfl rfl (i := 0) rfl Tryz.sizeOf24 rfl (rfl) rfl) (fun _ _ => ?_)
  refine RunL.still rfl rfl rfl (Still.assign rfl rfl) ?_
  refine RunL.nil ?_
  refine Ends.then ?_
  refine RunC.seq ?_
  refine RunC.seq ?_
  refine RunC.region ?_
  refine RunL.still rfl rfl rfl (Still.move rfl rfl) ?_
  refine RunL.still rfl rfl rfl (Still.neq rfl rfl rfl) ?_
  refine RunL.again (t := 79) (u := .bool false) rfl (rfl) ?_
  refine RunL.still rfl rfl rfl (Still.move rfl rfl) ?_
  refine RunL.still rfl rfl rfl (Still.loads rfl rfl Tryz.isAgg24 Tryz.sizeOf24 (vs := [_, _]) rfl (fun _ hs => cells_nth (hs.at (i := 0) rfl) ⟨rfl, ⟨rfl, trivial⟩⟩)) ?_
  refine RunL.still rfl rfl rfl (Still.loads rfl rfl Tryz.isAgg24 Tryz.sizeOf24 (vs := [_, _]) rfl (fun _ hs => cells_nth (hs.at (i := 4) rfl) ⟨rfl, ⟨rfl, trivial⟩⟩)) ?_
  refine RunL.grows rfl rfl rfl (Grows.call (vs := #[_, _]) rfl rfl Tryz.call11 (fun w hs => ref_Same_eq nb cb _ _ nc cc (canF d L) (canF d L) w (DiaAt.of_ownD hSc (hs.at (i := 1) rfl)) (DiaAt.of_ownD hSc (hs.at (i := 5) rfl)) rfl)) (fun _ _ => ?_)
  refine RunL.again (t := 83) (u := .bool true) rfl (rfl) ?_
  refine RunL.still rfl rfl rfl (Still.not rfl rfl) ?_
  refine RunL.still rfl rfl rfl (Still.pickF rfl rfl rfl) ?_
  refine RunL.nil ?_
  refine Ends.then ?_
  refine RunC.cond_false rfl ?_
  refine RunC.skip ?_
  refine Ends.then ?_
  refine RunC.seq ?_
  refine RunC.seq ?_
  refine RunC.region ?_
  refine RunL.still rfl rfl rfl (Still.move rfl rfl) ?_
  refine RunL.still rfl rfl rfl (Still.fieldAddrL (off := 0) (off' := 0) rfl rfl Tryz.underlying24 rfl Tryz.sizeOf22 rfl) ?_
  refine RunL.still rfl rfl rfl (Still.load rfl rfl Tryz.isAgg22 (fun _ hs => cell_nth (hs.at (i := 6) rfl) rfl)) ?_
  refine RunL.still rfl rfl rfl (Still.lenSlice rfl rfl Tryz.underlying22) ?_
  refine RunL.grows rfl rfl rfl (Grows.call (vs := #[_, _]) rfl rfl Tryz.call18 (fun w hs => lw_isOrder ob OA oc xs d.cross.length w (hx.sym hs))) (fun _ _ => ?_)
  refine RunL.again (t := 90) (u := .bool true) rfl (congrArg Value.bool h1) ?_
  refine RunL.still rfl rfl rfl (Still.not rfl rfl) ?_
  refine RunL.still rfl rfl rfl (Still.move rfl rfl) ?_
  refine RunL.still rfl rfl rfl (Still.move rfl rfl) ?_
  refine RunL.still rfl rfl rfl (Still.fieldAddrL (off := 0) (off' := 0) rfl rfl Tryz.underlying24 rfl Tryz.sizeOf22 rfl) ?_
  refine RunL.still rfl rfl rfl (Still.load rfl rfl Tryz.isAgg22 (fun _ hs => cell_nth (hs.at (i := 6) rfl) rfl)) ?_
  refine RunL.still rfl rfl rfl (Still.lenSlice rfl rfl Tryz.underlying22) ?_
  refine RunL.still rfl rfl rfl (Still.mul rfl rfl rfl (fits64 (by omega) (by omega))) ?_
  refine RunL.again (t := 97) (u := iv ((2 * d.cross.length : Nat) : Int)) rfl (congrArg iv (by omega)) ?_
  refine RunL.grows rfl rfl rfl (Grows.call (vs := #[_, _]) rfl rfl Tryz.call18 (fun w hs => lw_isOrder yb YA yc ys (2 * d.cross.length : Nat) w (hy.sym hs))) (fun _ _ => ?_)
  refine RunL.again (t := 98) (u := .bool false) rfl (congrArg Value.bool h2) ?_
  refine RunL.still rfl rfl rfl (Still.not rfl rfl) ?_
  refine RunL.still rfl rfl rfl (Still.pickF rfl rfl rfl) ?_
  refine RunL.nil ?_
  refine Ends.then ?_
  refine RunC.cond_true rfl ?_
  refine RunC.seq ?_
  refine RunC.region ?_
  refine RunL.grows rfl rfl rfl (Grows.call (vs := #[]) rfl rfl Tryz.call13 (fun w hs => lw_sane w)) (fun _ _ => ?_)
  refine RunL.again (t := 101) (u := .bool true) rfl (rfl) ?_
  refine RunL.still rfl rfl rfl (Still.move rfl rfl) ?_
  refine RunL.still rfl rfl rfl (Still.move rfl rfl) ?_
  refine RunL.still rfl rfl rfl (Still.eql rfl rfl rfl) ?_
  refine RunL.again (t := 104) (u := .bool true) rfl (rfl) ?_
  refine RunL.still rfl rfl rfl (Still.pickT rfl rfl rfl) ?_
  refine RunL.still rfl rfl rfl (Still.move rfl rfl) ?_
  refine RunL.still rfl rfl rfl (Still.fieldAddrL (off := 0) (off' := 0) rfl rfl Tryz.underlying24 rfl Tryz.sizeOf22 rfl) ?_
  refine RunL.still rfl rfl rfl (Still.load rfl rfl Tryz.isAgg22 (fun _ hs => cell_nth (hs.at (i := 3) rfl) rfl)) ?_
  refine RunL.still rfl rfl rfl (Still.lenSlice rfl rfl Tryz.underlying22) ?_
  refine RunL.still rfl rfl rfl (Still.eql rfl rfl rfl) ?_
  refine RunL.again (t := 110) (u := .bool true) rfl (rfl) ?_
  refine RunL.still rfl rfl rfl (Still.pickT rfl rfl rfl) ?_
  refine RunL.still rfl rfl rfl (Still.assign rfl rfl) ?_
  refine RunL.nil ?_
  refine Ends.then ?_
  refine RunC.ret ?_
  refine Ends.then_ret ?_
  refine Ends.leave (.inl rfl) (fun _ _ ok => results1 Tryz.results4 (Holds.tmp rfl) ok) (fun w1 hs => ?_)
  exact Ret.intro () trivial rfl (HSub.nil _) hs

theorem lw_DiagCanons_ok (base : Option Addr) (A : Addr) (cap : Nat) (d : Dia) (ob : Option Addr) (OA : Addr) (oc : Nat) (xs : List Int) (yb : Option Addr) (YA : Addr) (yc : Nat) (ys : List Int) (w : World) (hd : DiaAt w base A d) (hx : IntsAt w ob OA oc xs) (hy : IntsAt w yb YA yc ys) (h8x : xs.length * 8 ≤ 140737488355328) (h8y : ys.length * 8 ≤ 140737488355328) (hb : ¬ 16 < d.cross.length) (hc : checkI d = 0) (h1 : ordB xs d.cross.length = true) (h2 : ordB ys (2 * d.cross.length : Nat) = true) : Gives Tryz.prog 4 #[diaV base cap d, lisV ob oc xs, lisV yb yc ys] w Nil (fun _ : Unit => True) (fun _ => .bool true) (fun _ => []) := by
  obtain ⟨hS, hPl⟩ := checkI_ok.1 hc
  obtain ⟨sr, tr, hren⟩ := ren_of_ord h1 h2
  have hSr := hren.sound hS
  have hcr : checkI (renD d xs ys) = 0 := checkI_ok.2 ⟨hSr, hren.planar hS hPl⟩
  refine fn_of_run (S := Nil) (args := [diaV base cap d, lisV ob oc xs, lisV yb yc ys]) (n := 144) (L := []) Tryz.func4 rfl Tryz.ntmps4 (Nat.le_of_ble_eq_true rfl) (Sym.nil _ _) ?_
  change RunC _ _ _ [(0, _), (1, _), (2, _)] _
  refine RunC.seq ?_
  refine RunC.region ?_
  refine RunL.grows rfl rfl rfl (Grows.box rfl rfl) (fun b3 _ => ?_)
  refine RunL.still rfl rfl rfl (Still.assign rfl rfl) ?_
  refine RunL.nil ?_
  refine Ends.then ?_
  refine RunC.seq ?_
  refine RunC.seq ?_
  refine RunC.region ?_
  refine RunL.still rfl rfl rfl (Still.fieldAddrL (off := 0) (off' := 0) rfl rfl Tryz.underlying24 rfl Tryz.sizeOf22 rfl) ?_
  refine RunL.still rfl rfl rfl (Still.load rfl rfl Tryz.isAgg22 (fun _ hs => cell_nth (hs.at (i := 0) rfl) rfl)) ?_
  refine RunL.still rfl rfl rfl (Still.lenSlice rfl rfl Tryz.underlying22) ?_
  refine RunL.still rfl rfl rfl (Still.gtr rfl rfl rfl) ?_
  refine RunL.again (t := 19) (u := .bool false) rfl (congrArg Value.bool (decide_eq_false (by omega))) ?_
  refine RunL.nil ?_
  refine Ends.then ?_
  refine RunC.cond_false rfl ?_
  refine RunC.skip ?_
  refine Ends.then ?_
  refine RunC.seq ?_
  refine RunC.region ?_
  refine RunL.still rfl rfl rfl (Still.loads rfl rfl Tryz.isAgg24 Tryz.sizeOf24 (vs := [_, _]) rfl (fun _ hs => cells_nth (hs.at (i := 0) rfl) ⟨rfl, ⟨rfl, trivial⟩⟩)) ?_
  refine RunL.grows rfl rfl rfl (Grows.call (vs := #[_]) rfl rfl Tryz.call15 (fun w hs => dg_Canonical_ok base A cap d w (hd.sym hs) hc)) (fun ⟨⟨cb, cc⟩, L⟩ ⟨_, hL⟩ => ?_)
  have hL : IsCan d L := hL
  obtain ⟨sc, tc, hrc⟩ := can_ren hS hL
  have hSc := hrc.sound hS
  have hcc : checkI (canF d L) = 0 := checkI_ok.2 ⟨hSc, hrc.planar hS hPl⟩
  refine RunL.still rfl rfl rfl (Still.move rfl rfl) ?_
  refine RunL.still rfl rfl rfl (Still.extractN rfl rfl rfl) ?_
  refine RunL.still rfl rfl rfl (Still.extractN rfl rfl rfl) ?_
  refine RunL.grows rfl rfl rfl (Grows.alloc rfl Tryz.zeroValue24) (fun b7 _ => ?_)
  refine RunL.does0 rfl rfl (Does.store rfl rfl rfl (i := 0) rfl Tryz.sizeOf24 rfl (rfl) rfl) (fun _ _ => ?_)
  refine RunL.still rfl rfl rfl (Still.assign rfl rfl) ?_
  refine RunL.nil ?_
  refine Ends.then ?_
  refine RunC.seq ?_
  refine RunC.region ?_
  refine RunL.still rfl rfl rfl (Still.loads rfl rfl Tryz.isAgg24 Tryz.sizeOf24 (vs := [_, _]) rfl (fun _ hs => cells_nth (hs.at (i := 2) rfl) ⟨rfl, ⟨rfl, trivial⟩⟩)) ?_
  refine RunL.still rfl rfl rfl (Still.move rfl rfl) ?_
  refine RunL.still rfl rfl rfl (Still.move rfl rfl) ?_
  refine RunL.grows rfl rfl rfl (Grows.call (vs := #[_, _, _]) rfl rfl Tryz.call16 (fun w hs => dg_Renumber_ok base A cap d ob OA oc xs yb YA yc ys w (hd.sym hs) (hx.sym hs) (hy.sym hs) h8x h8y hc h1 h2)) (fun ⟨rb, rc⟩ _ => ?_)
  refine RunL.still rfl rfl rfl (Still.move rfl rfl) ?_
  refine RunL.still rfl rfl rfl (Still.extractN rfl rfl rfl) ?_
  refine RunL.still rfl rfl rfl (Still.extractN rfl rfl rfl) ?_
  refine RunL.grows rfl rfl rfl (Grows.alloc rfl Tryz.zeroValue24) (fun b9 _ => ?_)
  refine RunL.does0 rfl rfl (Does.store rfl rfl rfl (i := 0) rfl Tryz.sizeOf24 rfl (rfl) rfl) (fun _ _ => ?_)
  refine RunL.still rfl rfl rfl (Still.assign rfl rfl) ?_
  refine RunL.nil ?_
  refine Ends.then ?_
  refine RunC.seq ?_
  refine RunC.seq ?_
  refine RunC.region ?_
  refine RunL.still rfl rfl rfl (Still.loads rfl rfl Tryz.isAgg24 Tryz.sizeOf24 (vs := [_, _]) rfl (fun _ hs => cells_nth (hs.at (i := 4) rfl) ⟨rfl, ⟨rfl, trivial⟩⟩)) ?_
  refine RunL.grows rfl rfl rfl (Grows.call (vs := #[_]) rfl rfl Tryz.call8 (fun w hs => z_Check0 base A cap d w (hd.sym hs) hc)) (fun _ _ => ?_)
  refine RunL.still rfl rfl rfl (Still.assign rfl rfl) ?_
  refine RunL.nil ?_
  refine Ends.then ?_
  refine RunC.seq ?_
  refine RunC.region ?_
  refine RunL.still rfl rfl rfl (Still.move rfl rfl) ?_
  refine RunL.still rfl rfl rfl (Still.neq rfl rfl rfl) ?_
  refine RunL.again (t := 35) (u := .bool false) rfl (rfl) ?_
  refine RunL.nil ?_
  refine Ends.then ?_
  refine RunC.cond_false rfl ?_
  refine RunC.skip ?_
  refine Ends.then ?_
  refine RunC.seq ?_
  refine RunC.seq ?_
  refine RunC.draw 6 (.still 0 (.still 1 (.still 2 (.still 3 (.still 4 (.one 5 .done)))))) (by kernel_rfl) (by kernel_rfl) ?_
  refine RunG.still rfl rfl rfl rfl (Still.move rfl rfl) ?_
  refine RunG.still rfl rfl rfl rfl (Still.neq rfl rfl rfl) ?_
  refine RunG.again (t := 60) (u := .bool false) rfl (rfl) ?_
  refine RunG.still rfl rfl rfl rfl (Still.move rfl rfl) ?_
  refine RunG.still rfl rfl rfl rfl (Still.loads rfl rfl Tryz.isAgg24 Tryz.sizeOf24 (vs := [_, _]) rfl (fun _ hs => cells_nth (hs.at (i := 2) rfl) ⟨rfl, ⟨rfl, trivial⟩⟩)) ?_
  refine RunG.still rfl rfl rfl rfl (Still.loads rfl rfl Tryz.isAgg24 Tryz.sizeOf24 (vs := [_, _]) rfl (fun _ hs => cells_nth (hs.at (i := 4) rfl) ⟨rfl, ⟨rfl, trivial⟩⟩)) ?_
  refine RunG.grows rfl rfl rfl rfl (Grows.call (vs := #[_]) rfl rfl Tryz.call17 (fun w hs => ref_Canonical base A cap d w (hd.sym hs) hS)) (fun ⟨⟨kb, kc⟩, L3⟩ ⟨_, hL3⟩ => ?_)
  have e3 : L = L3 := hL.uniq hS hL3
  subst e3
  refine RunG.done ?_
  show RunL _ _ _ [_, _, _, _, _, _, _, _] _ _
  refine RunL.grows rfl rfl rfl (Grows.call (vs := #[_, _]) rfl rfl Tryz.call11 (fun w hs => ref_Same_eq cb kb _ _ cc kc (canF d L) (canF d L) w (DiaAt.of_ownD hSc (hs.at (i := 4) rfl)) (DiaAt.of_ownD hSc (hs.at (i := 0) rfl)) rfl)) (fun _ _ => ?_)
  refine RunL.again (t := 65) (u := .bool true) rfl (rfl) ?_
  refine RunL.still rfl rfl rfl (Still.not rfl rfl) ?_
  refine RunL.still rfl rfl rfl (Still.pickF rfl rfl rfl) ?_
  refine RunL.still rfl rfl rfl (Still.move rfl rfl) ?_
  refine RunL.still rfl rfl rfl (Still.loads rfl rfl Tryz.isAgg24 Tryz.sizeOf24 (vs := [_, _]) rfl (fun _ hs => cells_nth (hs.at (i := 3) rfl) ⟨rfl, ⟨rfl, trivial⟩⟩)) ?_
  refine RunL.grows rfl rfl rfl (Grows.call (vs := #[_]) rfl rfl Tryz.call8 (fun w hs => z_Check0 cb _ cc (canF d L) w (DiaAt.of_ownD hSc (hs.at (i := 4) rfl)) hcc)) (fun _ _ => ?_)
  refine RunL.still rfl rfl rfl (Still.neq rfl rfl rfl) ?_
  refine RunL.again (t := 71) (u := .bool false) rfl (rfl) ?_
  refine RunL.still rfl rfl rfl (Still.pickF rfl rfl rfl) ?_
  refine RunL.nil ?_
  refine Ends.then ?_
  refine RunC.cond_false rfl ?_
  refine RunC.skip ?_
  refine Ends.then ?_
  refine RunC.seq ?_
  refine RunC.region ?_
  refine RunL.still rfl rfl rfl (Still.loads rfl rfl Tryz.isAgg24 Tryz.sizeOf24 (vs := [_, _]) rfl (fun _ hs => cells_nth (hs.at (i := 3) rfl) ⟨rfl, ⟨rfl, trivial⟩⟩)) ?_
  refine RunL.grows rfl rfl rfl (Grows.call (vs := #[_]) rfl rfl Tryz.call15 (fun w hs => dg_Canonical_ok cb _ cc (canF d L) w (DiaAt.of_ownD hSc (hs.at (i := 4) rfl)) hcc)) (fun ⟨⟨nb, nc⟩, L2⟩ ⟨_, hL2⟩ => ?_)
  have e2 : L = L2 := (can_self hS hL).uniq hSc hL2
  subst e2
  refine RunL.still rfl rfl rfl (Still.move rfl rfl) ?_
  refine RunL.still rfl rfl rfl (Still.extractN rfl rfl rfl) ?_
  refine RunL.still rfl rfl rfl (Still.extractN rfl rfl rfl) ?_
  refine RunL.grows rfl rfl rfl (Grows.alloc rfl Tryz.zeroValue24) (fun b12 _ => ?_)
  refine RunL.does0 rfl rfl (Does.store rfl rfl rfl (i := 0) rfl Tryz.sizeOf24 rfl (rfl) rfl) (fun _ _ => ?_)
  refine RunL.still rfl rfl rfl (Still.assign rfl rfl) ?_
  refine RunL.nil ?_
  refine Ends.then ?_
  refine RunC.seq ?_
  refine RunC.seq ?_
  refine RunC.region ?_
  refine RunL.still rfl rfl rfl (Still.move rfl rfl) ?_
  refine RunL.still rfl rfl rfl (Still.neq rfl rfl rfl) ?_
  refine RunL.again (t := 79) (u := .bool false) rfl (rfl) ?_
  refine RunL.still rfl rfl rfl (Still.move rfl rfl) ?_
  refine RunL.still rfl rfl rfl (Still.loads rfl rfl Tryz.isAgg24 Tryz.sizeOf24 (vs := [_, _]) rfl (fun _ hs => cells_nth (hs.at (i := 0) rfl) ⟨rfl, ⟨rfl, trivial⟩⟩)) ?_
  refine RunL.still rfl rfl rfl (Still.loads rfl rfl Tryz.isAgg24 Tryz.sizeOf24 (vs := [_, _]) rfl (fun _ hs => cells_nth (hs.at (i := 5) rfl) ⟨rfl, ⟨rfl, trivial⟩⟩)) ?_
  refine RunL.grows rfl rfl rfl (Grows.call (vs := #[_, _]) rfl rfl Tryz.call11 (fun w hs => ref_Same_eq nb cb _ _ nc cc (canF d L) (canF d L) w (DiaAt.of_ownD hSc (hs.at (i := 1) rfl)) (DiaAt.of_ownD hSc (hs.at (i := 6) rfl)) rfl)) (fun _ _ => ?_)
  refine RunL.again (t := 83) (u := .bool true) rfl (rfl) ?_
  refine RunL.still rfl rfl rfl (Still.not rfl rfl) ?_
  refine RunL.still rfl rfl rfl (Still.pickF rfl rfl rfl) ?_
  refine RunL.nil ?_
  refine Ends.then ?_
  refine RunC.cond_false rfl ?_
  refine RunC.skip ?_
  refine Ends.then ?_
  refine RunC.seq ?_
  refine RunC.seq ?_
  refine RunC.region ?_
  refine RunL.still rfl rfl rfl (Still.move rfl rfl) ?_
  refine RunL.still rfl rfl rfl (Still.fieldAddrL (off := 0) (off' := 0) rfl rfl Tryz.underlying24 rfl Tryz.sizeOf22 rfl) ?_
  refine RunL.still rfl rfl rfl (Still.load rfl rfl Tryz.isAgg22 (fun _ hs => cell_nth (hs.at (i := 7) rfl) rfl)) ?_
  refine RunL.still rfl rfl rfl (Still.lenSlice rfl rfl Tryz.underlying22) ?_
  refine RunL.grows rfl rfl rfl (Grows.call (vs := #[_, _]) rfl rfl Tryz.call18 (fun w hs => lw_isOrder ob OA oc xs d.cross.length w (hx.sym hs))) (fun _ _ => ?_)
  refine RunL.again (t := 90) (u := .bool true) rfl (congrArg Value.bool h1) ?_
  refine RunL.still rfl rfl rfl (Still.not rfl rfl) ?_
  refine RunL.still rfl rfl rfl (Still.move rfl rfl) ?_
  refine RunL.still rfl rfl rfl (Still.move rfl rfl) ?_
  refine RunL.still rfl rfl rfl (Still.fieldAddrL (off := 0) (off' := 0) rfl rfl Tryz.underlying24 rfl Tryz.sizeOf22 rfl) ?_
  refine RunL.still rfl rfl rfl (Still.load rfl rfl Tryz.isAgg22 (fun _ hs => cell_nth (hs.at (i := 7) rfl) rfl)) ?_
  refine RunL.still rfl rfl rfl (Still.lenSlice rfl rfl Tryz.underlying22) ?_
  refine RunL.still rfl rfl rfl (Still.mul rfl rfl rfl (fits64 (by omega) (by omega))) ?_
  refine RunL.again (t := 97) (u := iv ((2 * d.cross.length : Nat) : Int)) rfl (congrArg iv (by omega)) ?_
  refine RunL.grows rfl rfl rfl (Grows.call (vs := #[_, _]) rfl rfl Tryz.call18 (fun w hs => lw_isOrder yb YA yc ys (2 * d.cross.length : Nat) w (hy.sym hs))) (fun _ _ => ?_)
  refine RunL.again (t := 98) (u := .bool true) rfl (congrArg Value.bool h2) ?_
  refine RunL.still rfl rfl rfl (Still.not rfl rfl) ?_
  refine RunL.still rfl rfl rfl (Still.pickF rfl rfl rfl) ?_
  refine RunL.nil ?_
  refine Ends.then ?_
  refine RunC.cond_false rfl ?_
  refine RunC.skip ?_
  refine Ends.then ?_
  refine RunC.seq ?_
  refine RunC.region ?_
  refine RunL.still rfl rfl rfl (Still.loads rfl rfl Tryz.isAgg24 Tryz.sizeOf24 (vs := [_, _]) rfl (fun _ hs => cells_nth (hs.at (i := 3) rfl) ⟨rfl, ⟨rfl, trivial⟩⟩)) ?_
  refine RunL.grows rfl rfl rfl (Grows.call (vs := #[_]) rfl rfl Tryz.call15 (fun w hs => dg_Canonical_ok rb _ rc (renD d xs ys) w (DiaAt.of_ownD hSr (hs.at (i := 4) rfl)) hcr)) (fun ⟨⟨ob2, oc2⟩, L4⟩ ⟨_, hL4⟩ => ?_)
  have e4 : L = L4 := (hren.isCan hS hL).uniq hSr hL4
  subst e4
  refine RunL.still rfl rfl rfl (Still.move rfl rfl) ?_
  refine RunL.still rfl rfl rfl (Still.extractN rfl rfl rfl) ?_
  refine RunL.still rfl rfl rfl (Still.extractN rfl rfl rfl) ?_
  refine RunL.grows rfl rfl rfl (Grows.alloc rfl Tryz.zeroValue24) (fun b14 _ => ?_)
  refine RunL.does0 rfl rfl (Does.store rfl rfl rfl (i := 0) rfl Tryz.sizeOf24 rfl (rfl) rfl) (fun _ _ => ?_)
  refine RunL.still rfl rfl rfl (Still.assign rfl rfl) ?_
  refine RunL.nil ?_
  refine Ends.then ?_
  refine RunC.seq ?_
  refine RunC.draw 25 (.one 0 (.still 1 (.still 2 (.still 3 (.still 4 (.still 5 (.still 6 (.still 7 (.still 8 (.still 9 (.one 10 (.one 11 (.still 12 (.still 13 (.still 14 (.one 15 (.still 16 (.still 17 (.still 18 (.still 19 (.still 20 (.still 21 (.still 22 (.still 23 (.still 24 .done))))))))))))))))))))))))) (by kernel_rfl) (by kernel_rfl) ?_
  refine RunG.grows rfl rfl rfl rfl (Grows.call (vs := #[]) rfl rfl Tryz.call13 (fun w hs => lw_sane w)) (fun _ _ => ?_)
  refine RunG.again (t := 117) (u := .bool true) rfl (rfl) ?_
  refine RunG.still rfl rfl rfl rfl (Still.move rfl rfl) ?_
  refine RunG.still rfl rfl rfl rfl (Still.move rfl rfl) ?_
  refine RunG.still rfl rfl rfl rfl (Still.eql rfl rfl rfl) ?_
  refine RunG.again (t := 120) (u := .bool true) rfl (rfl) ?_
  refine RunG.still rfl rfl rfl rfl (Still.pickT rfl rfl rfl) ?_
  refine RunG.still rfl rfl rfl rfl (Still.move rfl rfl) ?_
  refine RunG.still rfl rfl rfl rfl (Still.loads rfl rfl Tryz.isAgg24 Tryz.sizeOf24 (vs := [_, _]) rfl (fun _ hs => cells_nth (hs.at (i := 5) rfl) ⟨rfl, ⟨rfl, trivial⟩⟩)) ?_
  refine RunG.still rfl rfl rfl rfl (Still.loads rfl rfl Tryz.isAgg24 Tryz.sizeOf24 (vs := [_, _]) rfl (fun _ hs => cells_nth (hs.at (i := 9) rfl) ⟨rfl, ⟨rfl, trivial⟩⟩)) ?_
  refine RunG.still rfl rfl rfl rfl (Still.move rfl rfl) ?_
  refine RunG.still rfl rfl rfl rfl (Still.move rfl rfl) ?_
  refine RunG.grows rfl rfl rfl rfl (Grows.call (vs := #[_, _, _]) rfl rfl Tryz.call19 (fun w hs => ref_Renumber base A cap d ob OA oc xs yb YA yc ys w (hd.sym hs) (hx.sym hs) (hy.sym hs) hS h1 h2)) (fun ⟨qb, qc⟩ _ => ?_)
  refine RunG.grows rfl rfl rfl rfl (Grows.call (vs := #[_, _]) rfl rfl Tryz.call11 (fun w hs => ref_Same_eq rb qb _ _ rc qc (renD d xs ys) (renD d xs ys) w (DiaAt.of_ownD hSr (hs.at (i := 7) rfl)) (DiaAt.of_ownD hSr (hs.at (i := 0) rfl)) rfl)) (fun _ _ => ?_)
  refine RunG.again (t := 128) (u := .bool true) rfl (rfl) ?_
  refine RunG.still rfl rfl rfl rfl (Still.pickT rfl rfl rfl) ?_
  refine RunG.still rfl rfl rfl rfl (Still.move rfl rfl) ?_
  refine RunG.still rfl rfl rfl rfl (Still.loads rfl rfl Tryz.isAgg24 Tryz.sizeOf24 (vs := [_, _]) rfl (fun _ hs => cells_nth (hs.at (i := 6) rfl) ⟨rfl, ⟨rfl, trivial⟩⟩)) ?_
  refine RunG.grows rfl rfl rfl rfl (Grows.call (vs := #[_]) rfl rfl Tryz.call8 (fun w hs => z_Check0 rb _ rc (renD d xs ys) w (DiaAt.of_ownD hSr (hs.at (i := 7) rfl)) hcr)) (fun _ _ => ?_)
  refine RunG.still rfl rfl rfl rfl (Still.eql rfl rfl rfl) ?_
  refine RunG.again (t := 133) (u := .bool true) rfl (rfl) ?_
  refine RunG.still rfl rfl rfl rfl (Still.pickT rfl rfl rfl) ?_
  refine RunG.still rfl rfl rfl rfl (Still.move rfl rfl) ?_
  refine RunG.still rfl rfl rfl rfl (Still.move rfl rfl) ?_
  refine RunG.still rfl rfl rfl rfl (Still.eql rfl rfl rfl) ?_
  refine RunG.again (t := 137) (u := .bool true) rfl (rfl) ?_
  refine RunG.still rfl rfl rfl rfl (Still.pickT rfl rfl rfl) ?_
  refine RunG.still rfl rfl rfl rfl (Still.move rfl rfl) ?_
  refine RunG.still rfl rfl rfl rfl (Still.loads rfl rfl Tryz.isAgg24 Tryz.sizeOf24 (vs := [_, _]) rfl (fun _ hs => cells_nth (hs.at (i := 1) rfl) ⟨rfl, ⟨rfl, trivial⟩⟩)) ?_
  refine RunG.still rfl rfl rfl rfl (Still.loads rfl rfl Tryz.isAgg24 Tryz.sizeOf24 (vs := [_, _]) rfl (fun _ hs => cells_nth (hs.at (i := 8) rfl) ⟨rfl, ⟨rfl, trivial⟩⟩)) ?_
  refine RunG.done ?_
  show RunL _ _ _ [_, _, _] _ _
  refine RunL.grows rfl rfl rfl (Grows.call (vs := #[_, _]) rfl rfl Tryz.call11 (fun w hs => ref_Same_eq ob2 cb _ _ oc2 cc (canF d L) (canF d L) w (DiaAt.of_ownD hSc (hs.at (i := 2) rfl)) (DiaAt.of_ownD hSc (hs.at (i := 9) rfl)) rfl)) (fun _ _ => ?_)
  refine RunL.again (t := 142) (u := .bool true) rfl (rfl) ?_
  refine RunL.still rfl rfl rfl (Still.pickT rfl rfl rfl) ?_
  refine RunL.still rfl rfl rfl (Still.assign rfl rfl) ?_
  refine RunL.nil ?_
  refine Ends.then ?_
  refine RunC.ret ?_
  refine Ends.leave (.inl rfl) (fun _ _ ok => results1 Tryz.results4 (Holds.tmp rfl) ok) (fun w1 hs => ?_)
  exact Ret.intro () trivial rfl (HSub.nil _) hs

theorem lw_DiagCanons (base : Option Addr) (A : Addr) (cap : Nat) (d : Dia) (ob : Option Addr) (OA : Addr) (oc : Nat) (xs : List Int) (yb : Option Addr) (YA : Addr) (yc : Nat) (ys : List Int) (w : World) (hd : DiaAt w base A d) (hx : IntsAt w ob OA oc xs) (hy : IntsAt w yb YA yc ys) (h8x : xs.length * 8 ≤ 140737488355328) (h8y : ys.length * 8 ≤ 140737488355328) : Gives Tryz.prog 4 #[diaV base cap d, lisV ob oc xs, lisV yb yc ys] w Nil (fun _ : Unit => True) (fun _ => .bool true) (fun _ => []) := by
  by_cases hb : 16 < d.cross.length
  · exact lw_DiagCanons_big base A cap d ob OA oc xs yb YA yc ys w hd hx hy h8x h8y hb
  by_cases hc : checkI d = 0
  · cases h1 : ordB xs d.cross.length with
    | false => exact lw_DiagCanons_arg1 base A cap d ob OA oc xs yb YA yc ys w hd hx hy h8x h8y hb hc h1
    | true =>
      cases h2 : ordB ys (2 * d.cross.length : Nat) with
      | false => exact lw_DiagCanons_arg2 base A cap d ob OA oc xs yb YA yc ys w hd hx hy h8x h8y hb hc h1 h2
      | true => exact lw_DiagCanons_ok base A cap d ob OA oc xs yb YA yc ys w hd hx hy h8x h8y hb hc h1 h2
  · exact lw_DiagCanons_bad base A cap d ob OA oc xs yb YA yc ys w hd hx hy h8x h8y hb hc

end Go.Proofs
/- Texts by the reference, chapter 22. -/
namespace Go.Proofs
open Go Go.V
set_option maxRecDepth 20000
end Go.Proofs
/- The text by the reference, chapter 22. -/
namespace Go.Proofs
open Go Go.V
set_option maxRecDepth 20000
end Go.Proofs
/- The reference reads a text, chapter 22. -/
namespace Go.Proofs
open Go Go.V
set_option maxRecDepth 20000
end Go.Proofs
/- What the program uses of the library; numbers; the text of a diagram. -/
namespace Go.Proofs
open Go Go.V
set_option maxRecDepth 20000
/-- What the library reads of the package-level variables. -/
structure Tabs (w : World) : Prop where
  tab : Lib.TabIs Tryz.prog w "internal/strconv.uint64pow10" .u64 Lib.pow10Tab
/-- The same, and what reading a text needs. -/
structure Env (w : World) : Prop extends Tabs w where
  ml : ∃ m, w.cell? ⟨0, 0, none⟩ = some (.int .i64 m)
  syn : ∃ tp p, w.var? Tryz.prog "strconv.ErrSyntax" = some #[.iface tp p]
  rng : ∃ tp p, w.var? Tryz.prog "strconv.ErrRange" = some #[.iface tp p]
instance {w : World} : Coe (Env w) (Tabs w) := ⟨fun h => h.toTabs⟩
end Go.Proofs
/- A diagram as an argument: opened. -/
namespace Go.Proofs
open Go Go.V Go.ChangeShapes Go.WideShapes
set_option maxRecDepth 20000
section
variable {H : Type} {enc : TypeId × Value → H} {w : World} {base : Nat} {sp : Nat → Bool} {held : Bool}
theorem in64_of_wf {n : Int} (h : (Lit.int .i64 n).wf = true) : In64 n := by
  simp [Lit.wf, IntKind.min, IntKind.max, IntKind.bits, IntKind.signed] at h
  exact ⟨by omega, by omega⟩
theorem some_of_len {α : Type} {xs : List α} {n i : Nat} (h : xs.length = n) (hi : i < n) : ∃ y, xs[i]? = some y := ⟨xs[i]'(by omega), by simp⟩
theorem open_int3 {n : Nat} {cs : List Value} {y : DataW H × List MemPlace} (h : DataW.trod enc Tryz.prog w base sp held n 3 cs = some y) : ∃ k : Int, cs = [iv k] ∧ In64 k := by
  obtain ⟨k, e, _, hw⟩ := DataW.trod_int Tryz.underlying3 h
  exact ⟨k, e, in64_of_wf hw⟩
theorem open_cr {n : Nat} {cs : List Value} {x : DataW H × List MemPlace} (h : DataW.trod enc Tryz.prog w base sp held n 62 cs = some x) : ∃ c : Cr, cs = encCr c ∧ c.Wf := by
  have c69 : Tryz.prog.cellsOf 62 = 5 := by kernel_rfl
  have c67 : Tryz.prog.cellsOf 60 = 4 := by kernel_rfl
  have c3 : Tryz.prog.cellsOf 3 = 1 := by kernel_rfl
  obtain ⟨xs, m, _, _, hl, hxl, hf⟩ := DataW.trod_struct Tryz.underlying62 h
  rw [c69] at hl
  match cs, hl with
  | [v0, v1, v2, v3, v4], _ =>
    have f0 : DataW.trod enc Tryz.prog w base sp held m 60 (([v0, v1, v2, v3, v4].drop 0).take (Tryz.prog.cellsOf 60)) = xs[0]? := hf 0 _ rfl
    have f1 : DataW.trod enc Tryz.prog w base sp held m 3 (([v0, v1, v2, v3, v4].drop 4).take (Tryz.prog.cellsOf 3)) = xs[1]? := hf 1 _ rfl
    obtain ⟨y0, e0⟩ := some_of_len hxl (i := 0) (by decide)
    obtain ⟨y1, e1⟩ := some_of_len hxl (i := 1) (by decide)
    rw [e0] at f0; rw [e1] at f1
    rw [c67] at f0
    rw [c3] at f1
    change DataW.trod enc Tryz.prog w base sp held m 60 [v0, v1, v2, v3] = some y0 at f0
    change DataW.trod enc Tryz.prog w base sp held m 3 [v4] = some y1 at f1
    obtain ⟨k4, g4, w4⟩ := open_int3 f1
    obtain ⟨zs, m2, _, _, _, hzl, hz⟩ := DataW.trod_array Tryz.underlying60 f0
    have z0 := hz 0 (by decide); have z1 := hz 1 (by decide); have z2 := hz 2 (by decide); have z3 := hz 3 (by decide)
    obtain ⟨u0, q0⟩ := some_of_len hzl (i := 0) (by decide)
    obtain ⟨u1, q1⟩ := some_of_len hzl (i := 1) (by decide)
    obtain ⟨u2, q2⟩ := some_of_len hzl (i := 2) (by decide)
    obtain ⟨u3, q3⟩ := some_of_len hzl (i := 3) (by decide)
    rw [q0] at z0; rw [q1] at z1; rw [q2] at z2; rw [q3] at z3
    rw [c3] at z0 z1 z2 z3
    change DataW.trod enc Tryz.prog w base sp held m2 3 [v0] = some u0 at z0
    change DataW.trod enc Tryz.prog w base sp held m2 3 [v1] = some u1 at z1
    change DataW.trod enc Tryz.prog w base sp held m2 3 [v2] = some u2 at z2
    change DataW.trod enc Tryz.prog w base sp held m2 3 [v3] = some u3 at z3
    obtain ⟨k0, g0, w0⟩ := open_int3 z0
    obtain ⟨k1, g1, w1⟩ := open_int3 z1
    obtain ⟨k2, g2, w2⟩ := open_int3 z2
    obtain ⟨k3, g3, w3⟩ := open_int3 z3
    simp at g0 g1 g2 g3 g4
    subst g0; subst g1; subst g2; subst g3; subst g4
    exact ⟨⟨k0, k1, k2, k3, k4⟩, rfl, ⟨w0, w1, w2, w3, w4⟩⟩
/-- The diagram that an argument is. -/
theorem open_dia {r : Reach} {b0 : Nat} {v : Value} {x : DataW H} {ps : List MemPlace} (hv : Value.okWide Tryz.prog w r b0 24 v) (h : DataW.Trod enc Tryz.prog w base sp held 24 v x ps) : ∃ bs A cap d, v = diaV bs cap d ∧ DiaAt w bs A d := by
  have c24 : Tryz.prog.cellsOf 24 = 2 := by kernel_rfl
  have c22 : Tryz.prog.cellsOf 22 = 1 := by kernel_rfl
  have c3 : Tryz.prog.cellsOf 3 = 1 := by kernel_rfl
  have c69 : Tryz.prog.cellsOf 62 = 5 := by kernel_rfl
  obtain ⟨cs, rfl, hsz⟩ := okWide_struct Tryz.underlying24 hv
  obtain ⟨l⟩ := cs
  obtain ⟨fuel, h⟩ := h
  change DataW.trod enc Tryz.prog w base sp held fuel 24 l = _ at h
  obtain ⟨xs, m, _, _, hl, hxl, hf⟩ := DataW.trod_struct Tryz.underlying24 h
  rw [c24] at hl
  match l, hl with
  | [v0, v1], _ =>
    have f0 : DataW.trod enc Tryz.prog w base sp held m 22 (([v0, v1].drop 0).take (Tryz.prog.cellsOf 22)) = xs[0]? := hf 0 _ rfl
    have f1 : DataW.trod enc Tryz.prog w base sp held m 3 (([v0, v1].drop 1).take (Tryz.prog.cellsOf 3)) = xs[1]? := hf 1 _ rfl
    obtain ⟨y0, e0⟩ := some_of_len hxl (i := 0) (by decide)
    obtain ⟨y1, e1⟩ := some_of_len hxl (i := 1) (by decide)
    rw [e0] at f0; rw [e1] at f1
    rw [c22] at f0
    rw [c3] at f1
    change DataW.trod enc Tryz.prog w base sp held m 22 [v0] = some y0 at f0
    change DataW.trod enc Tryz.prog w base sp held m 3 [v1] = some y1 at f1
    obtain ⟨k, g1, wk⟩ := open_int3 f1
    simp at g1
    subst g1
    rcases DataW.trod_slice Tryz.underlying22 f0 with ⟨e, _⟩ | ⟨a, len, cap, elems, rest, n, _, e, _, _, hlc, hcm, hel, hget, _⟩
    · simp at e
      subst e
      exact ⟨none, ⟨0, 0, none⟩, 0, ⟨[], k⟩, rfl, ⟨fun h => absurd h (Nat.lt_irrefl 0), fun i x hi => by simp at hi, Nat.zero_le _, fun x hx => (by cases hx), wk⟩⟩
    · simp at e
      subst e
      have hcr : ∀ i, i < len → ∃ c : Cr, c.Wf ∧ Cells w (a.add (i * 5)) (encCr c) := by
        intro i hi
        have hg := hget i hi
        obtain ⟨y, hy⟩ := some_of_len hel hi
        rw [hy, c69] at hg
        obtain ⟨cs', h1, h2⟩ := Option.bind_eq_some_iff.1 hg
        obtain ⟨c, rfl, hw⟩ := open_cr h2
        obtain ⟨_, hcl, hat⟩ := World.cells?_some h1
        exact ⟨c, hw, fun j u hj => by
          have hj5 : j < 5 := by have := (List.getElem?_eq_some_iff.1 hj).1; simpa [encCr] using this
          rw [hat j hj5, hj]⟩
      obtain ⟨f, hf2⟩ := Classical.axiomOfChoice (r := fun (i : Nat) (c : Cr) => i < len → c.Wf ∧ Cells w (a.add (i * 5)) (encCr c)) fun i => by
        by_cases hi : i < len
        · obtain ⟨c, hc⟩ := hcr i hi; exact ⟨c, fun _ => hc⟩
        · exact ⟨⟨0, 0, 0, 0, 0⟩, fun h => absurd h hi⟩
      have hll : ((List.range len).map f).length = len := by simp
      refine ⟨some a, a, cap, ⟨(List.range len).map f, k⟩, by simp [diaV], ⟨fun _ => rfl, fun i x hi => ?_, ?_, fun x hx => ?_, wk⟩⟩
      · have hil : i < len := by have := (List.getElem?_eq_some_iff.1 hi).1; simpa using this
        simp [hil] at hi
        subst hi
        exact (hf2 i hil).2
      · show ((List.range len).map f).length ≤ _
        rw [hll]; have : maxLen = 9223372036854775807 := rfl; omega
      · obtain ⟨i, hi, rfl⟩ := List.mem_map.1 hx
        exact (hf2 i (List.mem_range.1 hi)).1
end
end Go.Proofs
/- A list of numbers as an argument: opened. -/
namespace Go.Proofs
open Go Go.V Go.ChangeShapes Go.WideShapes
set_option maxRecDepth 20000
section
variable {H : Type} {enc : TypeId × Value → H} {w : World} {base : Nat} {sp : Nat → Bool} {held : Bool}
theorem open_lis {r : Reach} {b0 : Nat} {v : Value} {x : DataW H} {ps : List MemPlace} (hv : Value.okWide Tryz.prog w r b0 36 v) (h : DataW.Trod enc Tryz.prog w base sp held 36 v x ps) : ∃ bs A cap xs, v = lisV bs cap xs ∧ IntsAt w bs A cap xs := by
  have c3 : Tryz.prog.cellsOf 3 = 1 := by kernel_rfl
  obtain ⟨bs, len, cap, rfl⟩ := okWide_slice Tryz.underlying36 hv
  obtain ⟨fuel, h⟩ := h
  change DataW.trod enc Tryz.prog w base sp held fuel 36 [.slice bs len cap] = _ at h
  rcases DataW.trod_slice Tryz.underlying36 h with ⟨e, _⟩ | ⟨a, len, cap, elems, rest, n, _, e, _, _, hlc, hcm, hel, hget, _⟩
  · simp at e
    obtain ⟨rfl, rfl, rfl⟩ := e
    exact ⟨none, ⟨0, 0, none⟩, 0, [], rfl, ⟨fun h => absurd h (Nat.lt_irrefl 0), fun j v hj => by simp [ints] at hj, Nat.zero_le _, Nat.zero_le _⟩⟩
  · simp at e
    obtain ⟨rfl, rfl, rfl⟩ := e
    have hcr : ∀ i, i < len → ∃ k : Int, w.cell? (a.add i) = some (iv k) := by
      intro i hi
      have hg := hget i hi
      obtain ⟨y, hy⟩ := some_of_len hel hi
      rw [hy, c3] at hg
      obtain ⟨cs', h1, h2⟩ := Option.bind_eq_some_iff.1 hg
      obtain ⟨k, rfl, _⟩ := open_int3 h2
      obtain ⟨_, hcl, hat⟩ := World.cells?_some h1
      have := hat 0 (by decide)
      rw [Nat.mul_one] at this
      exact ⟨k, by simpa [Addr.add] using this⟩
    obtain ⟨f, hf⟩ := Classical.axiomOfChoice (r := fun (i : Nat) (k : Int) => i < len → w.cell? (a.add i) = some (iv k)) fun i => by
      by_cases hi : i < len
      · obtain ⟨k, hk⟩ := hcr i hi; exact ⟨k, fun _ => hk⟩
      · exact ⟨0, fun h => absurd h hi⟩
    refine ⟨some a, a, cap, (List.range len).map f, by simp [lisV], ⟨fun _ => rfl, fun j v hj => ?_, by simpa using hlc, by have : maxLen = 9223372036854775807 := rfl; omega⟩⟩
    have hjl : j < len := by have := (List.getElem?_eq_some_iff.1 hj).1; simpa [ints] using this
    simp [ints, ints.iv', hjl] at hj
    rw [hf j hjl]; exact congrArg some hj
end
end Go.Proofs
