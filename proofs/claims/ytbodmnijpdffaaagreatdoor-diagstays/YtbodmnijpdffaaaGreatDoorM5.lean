/- The statement DiagStays: the walk. -/
import Derived.Test.YtbodmnijpdffaaaGreatDoorM3
import Derived.Test.YtbodmnijpdffaaaGreatDoorM4
import Derived.Test.YtbodmnijpdffaaaGreatDoorProg
import Derived.KernelRfl
import Derived.Test.YtbodmnijpdffaaaGreatDoorM0
import Derived.ProofKit
import Derived.OpenShut
namespace Go.Proofs
open Go Go.V
set_option maxRecDepth 20000
theorem lw_sameL (v u : Value) (xs ys : List Int) (w : World) (hv : Shape v xs.length) (hu : Shape u ys.length) (hc : Cells w (vaddr v) (ints xs)) (hd : Cells w (vaddr u) (ints ys)) (hl : xs.length ≤ 9223372036854775806) : Gives Tryz.prog 30 #[v, u] w Nil (fun _ : Unit => True) (fun _ => .bool (decide (xs = ys))) (fun _ => []) := by
  refine fn_of_run (S := Nil) (args := [v, u]) (n := 26) (L := []) Tryz.func30 rfl Tryz.ntmps30 (Nat.le_of_ble_eq_true rfl) (Sym.nil _ _) ?_
  change RunC _ _ _ [(0, _), (1, _)] _
  refine RunC.seq ?_
  refine RunC.region ?_
  refine RunL.still rfl rfl rfl (Still.assign rfl rfl) ?_
  refine RunL.nil ?_
  refine Ends.then ?_
  refine RunC.seq ?_
  refine RunC.seq ?_
  refine RunC.region ?_
  refine RunL.still rfl rfl rfl (Still.move rfl rfl) ?_
  refine RunL.still rfl rfl rfl (Still.lenV rfl rfl Tryz.underlying36 (hv)) ?_
  refine RunL.still rfl rfl rfl (Still.move rfl rfl) ?_
  refine RunL.still rfl rfl rfl (Still.lenV rfl rfl Tryz.underlying36 (hu)) ?_
  refine RunL.still rfl rfl rfl (Still.neq rfl rfl rfl) ?_
  refine RunL.nil ?_
  refine Ends.then ?_
  refine RunC.cond rfl (fun h10 => ?_) (fun h10 => ?_)
  · have h10 := of_decide_eq_true h10
    refine RunC.seq ?_
    refine RunC.region ?_
    refine RunL.still rfl rfl rfl (Still.assign rfl rfl) ?_
    refine RunL.nil ?_
    refine Ends.then ?_
    refine RunC.ret ?_
    refine Ends.then_ret ?_
    refine Ends.leave (.inl rfl) (fun _ _ ok => results1 Tryz.results30 (Holds.tmp rfl) ok) (fun w1 hs => ?_)
    exact Ret.intro () trivial (congrArg Value.bool (decide_eq_false (fun e => h10 (by rw [e]))).symm) (HSub.nil _) hs
  · have h10 := of_decide_eq_false h10
    refine RunC.skip ?_
    refine Ends.then ?_
    refine RunC.seq ?_
    refine RunC.seq ?_
    refine RunC.region ?_
    refine RunL.still rfl rfl rfl (Still.assign rfl rfl) ?_
    refine RunL.nil ?_
    refine Ends.then ?_
    refine RunC.block ?_
    refine RunC.loop2 (γ := Nat) (keep := [(0, _), (1, _)]) (hkeep := []) (fun i => i ≤ xs.length ∧ ∀ j, j < i → xs[j]? = ys[j]?) (fun i => xs.length - i) (fun i => [(5, iv i)]) (fun i => []) 0 ⟨by omega, fun j h => by omega⟩ (Fr.Sub.cons rfl (Fr.Sub.nil _)) (Fr.Sub.cons rfl (Fr.Sub.cons rfl (Fr.Sub.nil _))) (HSub.nil _) ?_
    rintro i ⟨hi, he⟩
    refine RunC.seq ?_
    refine RunC.seq ?_
    refine RunC.region ?_
    refine RunL.still rfl rfl rfl (Still.move rfl rfl) ?_
    refine RunL.still rfl rfl rfl (Still.move rfl rfl) ?_
    refine RunL.still rfl rfl rfl (Still.lenV rfl rfl Tryz.underlying36 (hv)) ?_
    refine RunL.still rfl rfl rfl (Still.lss rfl rfl rfl) ?_
    refine RunL.nil ?_
    refine Ends.then ?_
    refine RunC.cond rfl (fun h14 => ?_) (fun h14 => ?_)
    · have h14 := of_decide_eq_true h14
      obtain ⟨x, hx⟩ := get_of_lt (l := xs) (i := i) (by omega)
      obtain ⟨y, hy⟩ := get_of_lt (l := ys) (i := i) (by omega)
      refine RunC.skip ?_
      refine Ends.then ?_
      refine RunC.seq ?_
      refine RunC.block ?_
      refine RunC.seq ?_
      refine RunC.draw 8 (.still 0 (.still 1 (.still 2 (.still 3 (.still 4 (.still 5 (.still 6 (.still 7 .done)))))))) (by kernel_rfl) (by kernel_rfl) ?_
      refine RunG.still rfl rfl rfl rfl (Still.move rfl rfl) ?_
      refine RunG.still rfl rfl rfl rfl (Still.move rfl rfl) ?_
      refine RunG.still rfl rfl rfl rfl (Still.indexV _ rfl rfl rfl Tryz.underlying36 Tryz.sizeOf3 (hv) (rfl) (by omega)) ?_
      refine RunG.still rfl rfl rfl rfl (Still.load rfl rfl Tryz.isAgg3 (fun _ hs => cells_at (Cells.base0 hc hs) (ints_get hx))) ?_
      refine RunG.still rfl rfl rfl rfl (Still.move rfl rfl) ?_
      refine RunG.still rfl rfl rfl rfl (Still.move rfl rfl) ?_
      refine RunG.still rfl rfl rfl rfl (Still.indexV _ rfl rfl rfl Tryz.underlying36 Tryz.sizeOf3 (hu) (rfl) (by omega)) ?_
      refine RunG.still rfl rfl rfl rfl (Still.load rfl rfl Tryz.isAgg3 (fun _ hs => cells_at (Cells.base0 hd hs) (ints_get hy))) ?_
      refine RunG.done ?_
      show RunL _ _ _ [_] _ _
      refine RunL.still rfl rfl rfl (Still.neq rfl rfl rfl) ?_
      refine RunL.nil ?_
      refine Ends.then ?_
      refine RunC.cond rfl (fun h25 => ?_) (fun h25 => ?_)
      · have h25 := of_decide_eq_true h25
        refine RunC.seq ?_
        refine RunC.region ?_
        refine RunL.still rfl rfl rfl (Still.assign rfl rfl) ?_
        refine RunL.nil ?_
        refine Ends.then ?_
        refine RunC.ret ?_
        refine Ends.block_ret ?_
        refine Ends.then_ret ?_
        refine Ends.then_ret ?_
        refine Ends.block_ret ?_
        refine Ends.then_ret ?_
        refine Ends.leave (.inl rfl) (fun _ _ ok => results1 Tryz.results30 (Holds.tmp rfl) ok) (fun w2 hs => ?_)
        exact Ret.intro () trivial (congrArg Value.bool (decide_eq_false (fun e => h25 (by rw [e] at hx; rw [hx] at hy; exact Option.some.inj hy))).symm) (HSub.nil _) hs
      · have h25 := of_decide_eq_false h25
        refine RunC.skip ?_
        refine Ends.block ?_
        refine Ends.then ?_
        refine RunC.region ?_
        refine RunL.still rfl rfl rfl (Still.move rfl rfl) ?_
        refine RunL.still rfl rfl rfl (Still.add rfl rfl rfl (fits64 (by omega) (by omega))) ?_
        refine RunL.still rfl rfl rfl (Still.assign rfl rfl) ?_
        refine RunL.nil ?_
        refine Ends.again (i + 1) ?_ ?_ (Fr.Sub.app ?_ ?_) ?_
        · exact ⟨by omega, fun j h => by rcases Nat.lt_or_ge j i with h2 | h2; exact he j h2; obtain rfl : j = i := (by omega); rw [hx, hy]; congr 1; omega⟩
        · show _ < _; omega
        · exact Fr.Sub.cons rfl (Fr.Sub.nil _)
        · exact Fr.Sub.cons rfl (Fr.Sub.cons rfl (Fr.Sub.nil _))
        · exact HSub.nil _
    · have h14 := of_decide_eq_false h14
      refine RunC.exit ?_
      refine Ends.then_exit ?_
      refine Ends.then_exit ?_
      refine Ends.block_exit ?_
      refine Ends.then ?_
      refine RunC.seq ?_
      refine RunC.region ?_
      refine RunL.still rfl rfl rfl (Still.assign rfl rfl) ?_
      refine RunL.nil ?_
      refine Ends.then ?_
      refine RunC.ret ?_
      refine Ends.leave (.inl rfl) (fun _ _ ok => results1 Tryz.results30 (Holds.tmp rfl) ok) (fun w3 hs => ?_)
      exact Ret.intro () trivial (congrArg Value.bool (decide_eq_true (List.ext_getElem? fun j => by rcases Nat.lt_or_ge j xs.length with h | h; exact he j (by omega); rw [List.getElem?_eq_none h, List.getElem?_eq_none (by omega)])).symm) (HSub.nil _) hs

/-- The call returns; of what it returns nothing is said. -/
abbrev Any' (n : Nat) (args : Array Value) (w : World) : Prop := Gives Tryz.prog n args w Nil (fun _ : Value => True) (fun v => v) (fun _ => [])
theorem gives_any {n : Nat} {args : Array Value} {w : World} {γ : Type} {φ : γ → Prop} {V : γ → Value} {H : γ → List HL} (h : Gives Tryz.prog n args w Nil φ V H) : Any' n args w := by
  refine Calls.mono h ?_
  rintro e w' ⟨g, _, he, hs⟩
  exact ⟨V g, trivial, he, hs.sub (HSub.nil _)⟩
theorem any_Components (base : Option Addr) (A : Addr) (cap : Nat) (d : Dia) (w : World) (hd : DiaAt w base A d) : Any' 21 #[diaV base cap d] w := by
  by_cases hc : checkI d = 0
  · exact gives_any (dg_Components_ok base A cap d w hd hc)
  · exact gives_any (dg_Components_bad base A cap d w hd hc)
theorem any_Regions (base : Option Addr) (A : Addr) (cap : Nat) (d : Dia) (w : World) (hd : DiaAt w base A d) : Any' 22 #[diaV base cap d] w := by
  by_cases hc : checkI d = 0
  · exact gives_any (dg_Regions_ok base A cap d w hd hc)
  · exact gives_any (dg_Regions_bad base A cap d w hd hc)
theorem any_Writhe (base : Option Addr) (A : Addr) (cap : Nat) (d : Dia) (w : World) (hd : DiaAt w base A d) : Any' 23 #[diaV base cap d] w := by
  by_cases hc : checkI d = 0
  · exact gives_any (dg_Writhe_ok base A cap d w hd hc)
  · exact gives_any (dg_Writhe_bad base A cap d w hd hc)
theorem any_Linking (base : Option Addr) (A : Addr) (cap : Nat) (d : Dia) (i j : Int) (w : World) (hd : DiaAt w base A d) : Any' 24 #[diaV base cap d, iv i, iv j] w := by
  by_cases hc : checkI d = 0
  · exact gives_any (dg_Linking_ok base A cap d i j w hd hc)
  · exact gives_any (dg_Linking_bad base A cap d i j w hd hc)
theorem any_Mirror (base : Option Addr) (A : Addr) (cap : Nat) (d : Dia) (w : World) (hd : DiaAt w base A d) : Any' 25 #[diaV base cap d] w := by
  by_cases hc : checkI d = 0
  · exact gives_any (dg_Mirror_ok base A cap d w hd hc)
  · exact gives_any (dg_Mirror_bad base A cap d w hd hc)
theorem any_Reflect (base : Option Addr) (A : Addr) (cap : Nat) (d : Dia) (w : World) (hd : DiaAt w base A d) : Any' 26 #[diaV base cap d] w := by
  by_cases hc : checkI d = 0
  · exact gives_any (dg_Reflect_ok base A cap d w hd hc)
  · exact gives_any (dg_Reflect_bad base A cap d w hd hc)
theorem any_Canonical (base : Option Addr) (A : Addr) (cap : Nat) (d : Dia) (w : World) (hd : DiaAt w base A d) : Any' 15 #[diaV base cap d] w := by
  by_cases hc : checkI d = 0
  · exact gives_any (dg_Canonical_ok base A cap d w hd hc)
  · exact gives_any (dg_Canonical_bad base A cap d w hd hc)
theorem any_Text (base : Option Addr) (A : Addr) (cap : Nat) (d : Dia) (w : World) (hd : DiaAt w base A d) (he : Tabs w) : Any' 7 #[diaV base cap d] w := by
  by_cases hc : checkI d = 0
  · obtain ⟨hS, _⟩ := checkI_ok.1 hc
    exact gives_any (dg_Text base A cap d w hd hc (mid_of_sound hS) (by have := hS.2.2.1; omega) he)
  · exact gives_any (dg_Text_bad base A cap d w hd hc)
theorem any_Reverse (base : Option Addr) (A : Addr) (cap : Nat) (d : Dia) (lb : Option Addr) (LA : Addr) (lc : Nat) (xs : List Int) (w : World) (hd : DiaAt w base A d) (hx : IntsAt w lb LA lc xs) : Any' 27 #[diaV base cap d, lisV lb lc xs] w := by
  have hle := hx.le
  have hln := hx.len
  by_cases hc : checkI d = 0
  · cases hD : distB xs ((compCount d : Int) + d.loops) with
    | true => exact gives_any (dg_Reverse_ok base A cap d lb LA lc xs w hd hx (by omega) hc hD)
    | false => exact gives_any (dg_Reverse_arg base A cap d lb LA lc xs w hd hx (by omega) hc hD)
  · exact gives_any (dg_Reverse_bad base A cap d lb lc xs w hd hc)
theorem any_Renumber (base : Option Addr) (A : Addr) (cap : Nat) (d : Dia) (ob : Option Addr) (OA : Addr) (oc : Nat) (xs : List Int) (yb : Option Addr) (YA : Addr) (yc : Nat) (ys : List Int) (w : World) (hd : DiaAt w base A d) (hx : IntsAt w ob OA oc xs) (hy : IntsAt w yb YA yc ys) (h8x : xs.length * 8 ≤ 140737488355328) (h8y : ys.length * 8 ≤ 140737488355328) : Any' 16 #[diaV base cap d, lisV ob oc xs, lisV yb yc ys] w := by
  by_cases hc : checkI d = 0
  · cases h1 : ordB xs d.cross.length with
    | false => exact gives_any (dg_Renumber_arg1 base A cap d ob OA oc xs yb YA yc ys w hd hx hy h8x h8y hc h1)
    | true =>
      cases h2 : ordB ys (2 * d.cross.length : Nat) with
      | false => exact gives_any (dg_Renumber_arg2 base A cap d ob OA oc xs yb YA yc ys w hd hx hy h8x h8y hc h1 h2)
      | true => exact gives_any (dg_Renumber_ok base A cap d ob OA oc xs yb YA yc ys w hd hx hy h8x h8y hc h1 h2)
  · exact gives_any (dg_Renumber_bad base A cap d ob OA oc xs yb YA yc ys w hd hx hy h8x h8y hc)
theorem any_Union (ba : Option Addr) (A : Addr) (ca : Nat) (a : Dia) (bb : Option Addr) (B : Addr) (cb : Nat) (b : Dia) (w : World) (hda : DiaAt w ba A a) (hdb : DiaAt w bb B b) : Any' 28 #[diaV ba ca a, diaV bb cb b] w := by
  by_cases ha : SoundP a
  · by_cases hb : SoundP b
    · by_cases hca : checkI a = 0
      · by_cases hcb : checkI b = 0
        · by_cases hu : uniBad a b
          · exact gives_any (dg_Union_lim ba A ca a bb B cb b w hda hdb hca hcb hu)
          · exact gives_any (dg_Union_ok ba A ca a bb B cb b w hda hdb hca hcb hu)
        · exact gives_any (dg_Union_p2 ba A ca a bb B cb b w hda hdb ha hb hca hcb)
      · exact gives_any (dg_Union_p1 ba A ca a bb B cb b w hda hdb ha hb hca)
    · exact gives_any (dg_Union_d2 ba A ca a bb B cb b w hda hdb ha hb)
  · exact gives_any (dg_Union_d1 ba A ca a bb B cb b w hda hdb ha)
theorem any_Sum (ba : Option Addr) (A : Addr) (ca : Nat) (a : Dia) (i : Int) (bb : Option Addr) (B : Addr) (cb : Nat) (b : Dia) (j : Int) (w : World) (hda : DiaAt w ba A a) (hdb : DiaAt w bb B b) : Any' 29 #[diaV ba ca a, iv i, diaV bb cb b, iv j] w := by
  by_cases ha : SoundP a
  · by_cases hb : SoundP b
    · by_cases hca : checkI a = 0
      · by_cases hcb : checkI b = 0
        · by_cases hu : uniBad a b
          · exact gives_any (dg_Sum_lim ba A ca a i bb B cb b j w hda hdb hca hcb hu)
          · by_cases hi : thereP a i
            · by_cases hj : thereP b j
              · by_cases hn : i < 0 ∨ j < 0
                · exact gives_any (dg_Sum_neg ba A ca a i bb B cb b j w hda hdb hca hcb hu hi hj hn)
                · simp only [thereP] at hi hj
                  exact gives_any (dg_Sum_spl ba A ca a i bb B cb b j w hda hdb hca hcb hu (by omega) (by omega) (by omega) (by omega))
              · exact gives_any (dg_Sum_arg2 ba A ca a i bb B cb b j w hda hdb hca hcb hu hi hj)
            · exact gives_any (dg_Sum_arg1 ba A ca a i bb B cb b j w hda hdb hca hcb hu hi)
        · exact gives_any (dg_Sum_p2 ba A ca a i bb B cb b j w hda hdb ha hb hca hcb)
      · exact gives_any (dg_Sum_p1 ba A ca a i bb B cb b j w hda hdb ha hb hca)
    · exact gives_any (dg_Sum_d2 ba A ca a i bb B cb b j w hda hdb ha hb)
  · exact gives_any (dg_Sum_d1 ba A ca a i bb B cb b j w hda hdb ha)
theorem dia_copy {w0 w : World} {base : Option Addr} {A : Addr} {d : Dia} {xb : Option Addr} {xc : Nat} (hd : DiaAt w0 base A d) (hsh : 0 < d.cross.length → xb = some (vaddr (.slice xb d.cross.length xc))) (hl : d.cross.length ≤ 16) (h : (HL.own0 62 5 (.slice xb d.cross.length xc) d.cross.length (d.cross.flatMap encCr)).holds w) : DiaAt w xb (vaddr (.slice xb d.cross.length xc)) d :=
  DiaAt.of_cells hsh (own0_cells h (flat_len encCr_len _)) (by omega) hd.wf hd.loops

theorem z_app {C : Cx} {F : Fr} {L : List HL} {o : Oper} {x y : Operand} {i c : Nat} {b p : Option Addr} {A : Addr} {d : Dia} (hP : C.P = Tryz.prog) (hS : C.S = Nil) (hd : DiaAt C.w0 p A d) (hl : d.cross.length ≤ 16) (ho : o.op = .call { callee := .builtin .append, args := #[x, y], argTypes := #[22, 22] }) (hty : o.type = 22)
    (hx : F.ev x = some (.slice b 0 0)) (hb : b.isSome = true) (hy : F.ev y = some (.slice p d.cross.length c)) (hi : L[i]? = some (HL.own 62 5 (.slice b 0 0) 0 [])) :
    Grows C o F L (fun g : Option Addr × Nat => Shape (.slice g.1 d.cross.length g.2) d.cross.length) (fun g => .slice g.1 d.cross.length g.2) (fun g => [HL.own0 62 5 (.slice g.1 d.cross.length g.2) d.cross.length (d.cross.flatMap encCr)]) := by
  obtain ⟨P, r, n, D, w0, S⟩ := C
  cases hP; cases hS
  exact Grows.appendAny1 (news := d.cross.flatMap encCr) ho hty hx hb hy hd.base hi Tryz.underlying22 (by kernel_rfl : (_ : Option _) = some (some (.agg #[.int .i64 0, .int .i64 0, .int .i64 0, .int .i64 0, .int .i64 0]), 5, 40)) rfl (fun _ hs => Cells.base0 hd.cells hs) (flat_len encCr_len _) (by omega) (by omega)
set_option maxHeartbeats 4000000

theorem lw_DiagStays (ba : Option Addr) (A : Addr) (ca : Nat) (a : Dia) (bb : Option Addr) (B : Addr) (cb : Nat) (b : Dia) (i j : Int) (ob : Option Addr) (OA : Addr) (oc : Nat) (xs : List Int) (yb : Option Addr) (YA : Addr) (yc : Nat) (ys : List Int) (w : World) (he : Tabs w) (hda : DiaAt w ba A a) (hdb : DiaAt w bb B b) (hx : IntsAt w ob OA oc xs) (hy : IntsAt w yb YA yc ys) (h8x : xs.length * 8 ≤ 140737488355328) (h8y : ys.length * 8 ≤ 140737488355328) : Gives Tryz.prog 5 #[diaV ba ca a, diaV bb cb b, iv i, iv j, lisV ob oc xs, lisV yb yc ys] w Nil (fun _ : Unit => True) (fun _ => .bool true) (fun _ => []) := by
  have hlx := hx.le
  have hly := hy.le
  have hnx := hx.len
  have hny := hy.len
  refine fn_of_run (S := Nil) (args := [diaV ba ca a, diaV bb cb b, iv i, iv j, lisV ob oc xs, lisV yb yc ys]) (n := 106) (L := []) Tryz.func5 rfl Tryz.ntmps5 (Nat.le_of_ble_eq_true rfl) (Sym.nil _ _) ?_
  change RunC _ _ _ [(0, _), (1, _), (2, _), (3, _), (4, _), (5, _)] _
  refine RunC.seq ?_
  refine RunC.region ?_
  refine RunL.grows rfl rfl rfl (Grows.box rfl rfl) (fun b6 _ => ?_)
  refine RunL.grows rfl rfl rfl (Grows.box rfl rfl) (fun b7 _ => ?_)
  refine RunL.still rfl rfl rfl (Still.assign rfl rfl) ?_
  refine RunL.nil ?_
  refine Ends.then ?_
  refine RunC.seq ?_
  refine RunC.seq ?_
  refine RunC.region ?_
  refine RunL.still rfl rfl rfl (Still.fieldAddrL (off := 0) (off' := 0) rfl rfl Tryz.underlying24 rfl Tryz.sizeOf22 rfl) ?_
  refine RunL.still rfl rfl rfl (Still.load rfl rfl Tryz.isAgg22 (fun _ hs => cell_nth (hs.at (i := 1) rfl) rfl)) ?_
  refine RunL.still rfl rfl rfl (Still.lenSlice rfl rfl Tryz.underlying22) ?_
  refine RunL.still rfl rfl rfl (Still.gtr rfl rfl rfl) ?_
  refine RunL.still rfl rfl rfl (Still.move rfl rfl) ?_
  refine RunL.split (t := 21) rfl (fun h21 => ?_) (fun h21 => ?_)
  · skip
    refine RunL.off rfl rfl rfl ?_
    refine RunL.off rfl rfl rfl ?_
    refine RunL.off rfl rfl rfl ?_
    refine RunL.off rfl rfl rfl ?_
    refine RunL.still rfl rfl rfl (Still.pickT rfl rfl rfl) ?_
    refine RunL.nil ?_
    refine Ends.then ?_
    refine RunC.cond_true rfl ?_
    refine RunC.seq ?_
    refine RunC.region ?_
    refine RunL.still rfl rfl rfl (Still.assign rfl rfl) ?_
    refine RunL.nil ?_
    refine Ends.then ?_
    refine RunC.ret ?_
    refine Ends.then_ret ?_
    refine Ends.leave (.inl rfl) (fun _ _ ok => results1 Tryz.results5 (Holds.tmp rfl) ok) (fun w1 hs => ?_)
    exact Ret.intro () trivial rfl (HSub.nil _) hs
  · have hal : a.cross.length ≤ 16 := by have h21 := of_decide_eq_false h21; omega
    refine RunL.still rfl rfl rfl (Still.fieldAddrL (off := 0) (off' := 0) rfl rfl Tryz.underlying24 rfl Tryz.sizeOf22 rfl) ?_
    refine RunL.still rfl rfl rfl (Still.load rfl rfl Tryz.isAgg22 (fun _ hs => cell_nth (hs.at (i := 0) rfl) rfl)) ?_
    refine RunL.still rfl rfl rfl (Still.lenSlice rfl rfl Tryz.underlying22) ?_
    refine RunL.still rfl rfl rfl (Still.gtr rfl rfl rfl) ?_
    refine RunL.still rfl rfl rfl (Still.pickF rfl rfl rfl) ?_
    refine RunL.nil ?_
    refine Ends.then ?_
    refine RunC.cond rfl (fun h26 => ?_) (fun h26 => ?_)
    · skip
      refine RunC.seq ?_
      refine RunC.region ?_
      refine RunL.still rfl rfl rfl (Still.assign rfl rfl) ?_
      refine RunL.nil ?_
      refine Ends.then ?_
      refine RunC.ret ?_
      refine Ends.then_ret ?_
      refine Ends.leave (.inl rfl) (fun _ _ ok => results1 Tryz.results5 (Holds.tmp rfl) ok) (fun w2 hs => ?_)
      exact Ret.intro () trivial rfl (HSub.nil _) hs
    · have hbl : b.cross.length ≤ 16 := by have h26 := of_decide_eq_false h26; omega
      refine RunC.skip ?_
      refine Ends.then ?_
      refine RunC.seq ?_
      refine RunC.meetG (γ := Nat × Nat × (Option Addr × Nat) × (Option Addr × Nat)) (keep := [(2, _), (3, _), (4, _), (5, _), (6, _), (7, _)]) (hkeep := [_, _]) (fun (p, q, u, v) => Shape (.slice u.1 a.cross.length u.2) a.cross.length ∧ Shape (.slice v.1 b.cross.length v.2) b.cross.length) (fun (p, q, u, v) => [(13, ptrV p), (14, ptrV q)]) (fun (p, q, u, v) => [HL.obj p (.cells #[.slice u.1 a.cross.length u.2, iv a.loops] 24 (0, 0)), HL.obj q (.cells #[.slice v.1 b.cross.length v.2, iv b.loops] 24 (0, 0)), HL.own0 62 5 (.slice u.1 a.cross.length u.2) a.cross.length (a.cross.flatMap encCr), HL.own0 62 5 (.slice v.1 b.cross.length v.2) b.cross.length (b.cross.flatMap encCr)]) (Fr.Sub.cons rfl (Fr.Sub.cons rfl (Fr.Sub.cons rfl (Fr.Sub.cons rfl (Fr.Sub.cons rfl (Fr.Sub.cons rfl (Fr.Sub.nil _))))))) (HSub.pick 0 rfl (HSub.pick 0 rfl (HSub.nil _))) ?_ ?_
      ·
        refine RunC.drawM 17 (by kernel_rfl) (by kernel_rfl) ?_
        refine RunM0.still (i := 1) rfl rfl rfl rfl (Still.fieldAddrL (off := 0) (off' := 0) rfl rfl Tryz.underlying24 rfl Tryz.sizeOf22 rfl) (by kernel_rfl) (by kernel_rfl) rfl ?_
        refine RunM0.still (i := 2) rfl rfl rfl rfl (Still.load rfl rfl Tryz.isAgg22 (fun _ hs => cell_nth (hs.at (i := 1) rfl) rfl)) (by kernel_rfl) (by kernel_rfl) rfl ?_
        refine RunM0.still (i := 4) rfl rfl rfl rfl (Still.fieldAddrL (off := 0) (off' := 1) rfl rfl Tryz.underlying24 rfl Tryz.sizeOf3 rfl) (by kernel_rfl) (by kernel_rfl) rfl ?_
        refine RunM0.still (i := 5) rfl rfl rfl rfl (Still.load rfl rfl Tryz.isAgg3 (fun _ hs => cell_nth (hs.at (i := 1) rfl) rfl)) (by kernel_rfl) (by kernel_rfl) rfl ?_
        refine RunM0.still (i := 8) rfl rfl rfl rfl (Still.fieldAddrL (off := 0) (off' := 0) rfl rfl Tryz.underlying24 rfl Tryz.sizeOf22 rfl) (by kernel_rfl) (by kernel_rfl) rfl ?_
        refine RunM0.still (i := 9) rfl rfl rfl rfl (Still.load rfl rfl Tryz.isAgg22 (fun _ hs => cell_nth (hs.at (i := 0) rfl) rfl)) (by kernel_rfl) (by kernel_rfl) rfl ?_
        refine RunM0.still (i := 11) rfl rfl rfl rfl (Still.fieldAddrL (off := 0) (off' := 1) rfl rfl Tryz.underlying24 rfl Tryz.sizeOf3 rfl) (by kernel_rfl) (by kernel_rfl) rfl ?_
        refine RunM0.still (i := 12) rfl rfl rfl rfl (Still.load rfl rfl Tryz.isAgg3 (fun _ hs => cell_nth (hs.at (i := 0) rfl) rfl)) (by kernel_rfl) (by kernel_rfl) rfl ?_
        refine RunM0.news ?_
        refine RunM.pick [0, 7, 14, 15] (by kernel_rfl) rfl rfl (fun i hi => ?_)
        simp only [List.mem_cons, List.not_mem_nil, or_false] at hi
        rcases hi with rfl | rfl | rfl | rfl
        ·
          refine StepM.grows rfl rfl rfl rfl (Grows.empty rfl Tryz.underlying22 Tryz.sizeOf62 Tryz.zeroValue62) (fun b27 _ => ?_)
          refine RunM.pick [3, 7, 14, 15] (by kernel_rfl) rfl rfl (fun i hi => ?_)
          simp only [List.mem_cons, List.not_mem_nil, or_false] at hi
          rcases hi with rfl | rfl | rfl | rfl
          ·
            refine StepM.grows rfl rfl rfl rfl (z_app rfl rfl hda hal rfl rfl rfl rfl rfl (i := 0) rfl) (fun g30 hv30 => ?_)
            refine RunM.pure (i := 6) rfl rfl rfl rfl (fun _ => Still.build_1_1 (fun x0_0 x1_0 => .agg #[x0_0, x1_0]) rfl rfl rfl (fun _ => by kernel_rfl)) (by kernel_rfl) (by kernel_rfl) rfl ?_
            refine RunM.pick [7, 14, 15] (by kernel_rfl) rfl rfl (fun i hi => ?_)
            simp only [List.mem_cons, List.not_mem_nil, or_false] at hi
            rcases hi with rfl | rfl | rfl
            ·
              refine StepM.grows rfl rfl rfl rfl (Grows.empty rfl Tryz.underlying22 Tryz.sizeOf62 Tryz.zeroValue62) (fun b34 _ => ?_)
              refine RunM.pick [10, 14, 15] (by kernel_rfl) rfl rfl (fun i hi => ?_)
              simp only [List.mem_cons, List.not_mem_nil, or_false] at hi
              rcases hi with rfl | rfl | rfl
              ·
                refine StepM.grows rfl rfl rfl rfl (z_app rfl rfl hdb hbl rfl rfl rfl rfl rfl (i := 0) rfl) (fun g37 hv37 => ?_)
                refine RunM.pure (i := 13) rfl rfl rfl rfl (fun _ => Still.build_1_1 (fun x0_0 x1_0 => .agg #[x0_0, x1_0]) rfl rfl rfl (fun _ => by kernel_rfl)) (by kernel_rfl) (by kernel_rfl) rfl ?_
                refine RunM.pick [14, 15] (by kernel_rfl) rfl rfl (fun i hi => ?_)
                simp only [List.mem_cons, List.not_mem_nil, or_false] at hi
                rcases hi with rfl | rfl
                ·
                  refine StepM.alloc rfl rfl rfl rfl rfl Tryz.zeroValue24 (fun b13 => ?_)
                  refine RunM.pick [15] (by kernel_rfl) rfl rfl (fun i hi => ?_)
                  obtain rfl : i = 15 := by simpa using hi
                  refine StepM.alloc rfl rfl rfl rfl rfl Tryz.zeroValue24 (fun b14 => ?_)
                  refine RunM.pick [16] (by kernel_rfl) rfl rfl (fun i hi => ?_)
                  obtain rfl : i = 16 := by simpa using hi
                  refine StepM.store rfl rfl rfl rfl rfl rfl (m := 1) rfl Tryz.sizeOf24 rfl rfl rfl (by simp) ?_
                  refine RunM.done (by kernel_rfl) ?_
                  show RunL _ _ _ [_] _ _
                  refine RunL.does0 rfl rfl (Does.store rfl rfl rfl (i := 0) rfl Tryz.sizeOf24 rfl (rfl) rfl) (fun _ _ => ?_)
                  refine RunL.nil ?_
                  exact Ends.meetG (b13, b14, g30, g37) ⟨hv30, hv37⟩ (Fr.Sub.cons rfl (Fr.Sub.cons rfl (Fr.Sub.nil _))) (Fr.Sub.cons rfl (Fr.Sub.cons rfl (Fr.Sub.cons rfl (Fr.Sub.cons rfl (Fr.Sub.cons rfl (Fr.Sub.cons rfl (Fr.Sub.nil _))))))) (HSub.pick 1 rfl (HSub.pick 0 rfl (HSub.pick 2 rfl (HSub.pick 0 rfl (HSub.pick 2 rfl (HSub.pick 2 rfl (HSub.nil _)))))))
                ·
                  refine StepM.alloc rfl rfl rfl rfl rfl Tryz.zeroValue24 (fun b14 => ?_)
                  refine RunM.pick [14] (by kernel_rfl) rfl rfl (fun i hi => ?_)
                  obtain rfl : i = 14 := by simpa using hi
                  refine StepM.alloc rfl rfl rfl rfl rfl Tryz.zeroValue24 (fun b13 => ?_)
                  refine RunM.pick [16] (by kernel_rfl) rfl rfl (fun i hi => ?_)
                  obtain rfl : i = 16 := by simpa using hi
                  refine StepM.store rfl rfl rfl rfl rfl rfl (m := 0) rfl Tryz.sizeOf24 rfl rfl rfl (by simp) ?_
                  refine RunM.done (by kernel_rfl) ?_
                  show RunL _ _ _ [_] _ _
                  refine RunL.does0 rfl rfl (Does.store rfl rfl rfl (i := 1) rfl Tryz.sizeOf24 rfl (rfl) rfl) (fun _ _ => ?_)
                  refine RunL.nil ?_
                  exact Ends.meetG (b13, b14, g30, g37) ⟨hv30, hv37⟩ (Fr.Sub.cons rfl (Fr.Sub.cons rfl (Fr.Sub.nil _))) (Fr.Sub.cons rfl (Fr.Sub.cons rfl (Fr.Sub.cons rfl (Fr.Sub.cons rfl (Fr.Sub.cons rfl (Fr.Sub.cons rfl (Fr.Sub.nil _))))))) (HSub.pick 0 rfl (HSub.pick 0 rfl (HSub.pick 2 rfl (HSub.pick 0 rfl (HSub.pick 2 rfl (HSub.pick 2 rfl (HSub.nil _)))))))
              ·
                refine StepM.alloc rfl rfl rfl rfl rfl Tryz.zeroValue24 (fun b13 => ?_)
                refine RunM.pick [10, 15] (by kernel_rfl) rfl rfl (fun i hi => ?_)
                simp only [List.mem_cons, List.not_mem_nil, or_false] at hi
                rcases hi with rfl | rfl
                ·
                  refine StepM.grows rfl rfl rfl rfl (z_app rfl rfl hdb hbl rfl rfl rfl rfl rfl (i := 1) rfl) (fun g37 hv37 => ?_)
                  refine RunM.pure (i := 13) rfl rfl rfl rfl (fun _ => Still.build_1_1 (fun x0_0 x1_0 => .agg #[x0_0, x1_0]) rfl rfl rfl (fun _ => by kernel_rfl)) (by kernel_rfl) (by kernel_rfl) rfl ?_
                  refine RunM.pick [15] (by kernel_rfl) rfl rfl (fun i hi => ?_)
                  obtain rfl : i = 15 := by simpa using hi
                  refine StepM.alloc rfl rfl rfl rfl rfl Tryz.zeroValue24 (fun b14 => ?_)
                  refine RunM.pick [16] (by kernel_rfl) rfl rfl (fun i hi => ?_)
                  obtain rfl : i = 16 := by simpa using hi
                  refine StepM.store rfl rfl rfl rfl rfl rfl (m := 2) rfl Tryz.sizeOf24 rfl rfl rfl (by simp) ?_
                  refine RunM.done (by kernel_rfl) ?_
                  show RunL _ _ _ [_] _ _
                  refine RunL.does0 rfl rfl (Does.store rfl rfl rfl (i := 0) rfl Tryz.sizeOf24 rfl (rfl) rfl) (fun _ _ => ?_)
                  refine RunL.nil ?_
                  exact Ends.meetG (b13, b14, g30, g37) ⟨hv30, hv37⟩ (Fr.Sub.cons rfl (Fr.Sub.cons rfl (Fr.Sub.nil _))) (Fr.Sub.cons rfl (Fr.Sub.cons rfl (Fr.Sub.cons rfl (Fr.Sub.cons rfl (Fr.Sub.cons rfl (Fr.Sub.cons rfl (Fr.Sub.nil _))))))) (HSub.pick 2 rfl (HSub.pick 0 rfl (HSub.pick 2 rfl (HSub.pick 0 rfl (HSub.pick 2 rfl (HSub.pick 2 rfl (HSub.nil _)))))))
                ·
                  refine StepM.alloc rfl rfl rfl rfl rfl Tryz.zeroValue24 (fun b14 => ?_)
                  refine RunM.pick [10] (by kernel_rfl) rfl rfl (fun i hi => ?_)
                  obtain rfl : i = 10 := by simpa using hi
                  refine StepM.grows rfl rfl rfl rfl (z_app rfl rfl hdb hbl rfl rfl rfl rfl rfl (i := 2) rfl) (fun g37 hv37 => ?_)
                  refine RunM.pure (i := 13) rfl rfl rfl rfl (fun _ => Still.build_1_1 (fun x0_0 x1_0 => .agg #[x0_0, x1_0]) rfl rfl rfl (fun _ => by kernel_rfl)) (by kernel_rfl) (by kernel_rfl) rfl ?_
                  refine RunM.pick [16] (by kernel_rfl) rfl rfl (fun i hi => ?_)
                  obtain rfl : i = 16 := by simpa using hi
                  refine StepM.store rfl rfl rfl rfl rfl rfl (m := 2) rfl Tryz.sizeOf24 rfl rfl rfl (by simp) ?_
                  refine RunM.done (by kernel_rfl) ?_
                  show RunL _ _ _ [_] _ _
                  refine RunL.does0 rfl rfl (Does.store rfl rfl rfl (i := 1) rfl Tryz.sizeOf24 rfl (rfl) rfl) (fun _ _ => ?_)
                  refine RunL.nil ?_
                  exact Ends.meetG (b13, b14, g30, g37) ⟨hv30, hv37⟩ (Fr.Sub.cons rfl (Fr.Sub.cons rfl (Fr.Sub.nil _))) (Fr.Sub.cons rfl (Fr.Sub.cons rfl (Fr.Sub.cons rfl (Fr.Sub.cons rfl (Fr.Sub.cons rfl (Fr.Sub.cons rfl (Fr.Sub.nil _))))))) (HSub.pick 2 rfl (HSub.pick 1 rfl (HSub.pick 2 rfl (HSub.pick 0 rfl (HSub.pick 2 rfl (HSub.pick 2 rfl (HSub.nil _)))))))
              ·
                refine StepM.alloc rfl rfl rfl rfl rfl Tryz.zeroValue24 (fun b14 => ?_)
                refine RunM.pick [10, 14] (by kernel_rfl) rfl rfl (fun i hi => ?_)
                simp only [List.mem_cons, List.not_mem_nil, or_false] at hi
                rcases hi with rfl | rfl
                ·
                  refine StepM.grows rfl rfl rfl rfl (z_app rfl rfl hdb hbl rfl rfl rfl rfl rfl (i := 1) rfl) (fun g37 hv37 => ?_)
                  refine RunM.pure (i := 13) rfl rfl rfl rfl (fun _ => Still.build_1_1 (fun x0_0 x1_0 => .agg #[x0_0, x1_0]) rfl rfl rfl (fun _ => by kernel_rfl)) (by kernel_rfl) (by kernel_rfl) rfl ?_
                  refine RunM.pick [14] (by kernel_rfl) rfl rfl (fun i hi => ?_)
                  obtain rfl : i = 14 := by simpa using hi
                  refine StepM.alloc rfl rfl rfl rfl rfl Tryz.zeroValue24 (fun b13 => ?_)
                  refine RunM.pick [16] (by kernel_rfl) rfl rfl (fun i hi => ?_)
                  obtain rfl : i = 16 := by simpa using hi
                  refine StepM.store rfl rfl rfl rfl rfl rfl (m := 0) rfl Tryz.sizeOf24 rfl rfl rfl (by simp) ?_
                  refine RunM.done (by kernel_rfl) ?_
                  show RunL _ _ _ [_] _ _
                  refine RunL.does0 rfl rfl (Does.store rfl rfl rfl (i := 2) rfl Tryz.sizeOf24 rfl (rfl) rfl) (fun _ _ => ?_)
                  refine RunL.nil ?_
                  exact Ends.meetG (b13, b14, g30, g37) ⟨hv30, hv37⟩ (Fr.Sub.cons rfl (Fr.Sub.cons rfl (Fr.Sub.nil _))) (Fr.Sub.cons rfl (Fr.Sub.cons rfl (Fr.Sub.cons rfl (Fr.Sub.cons rfl (Fr.Sub.cons rfl (Fr.Sub.cons rfl (Fr.Sub.nil _))))))) (HSub.pick 0 rfl (HSub.pick 1 rfl (HSub.pick 2 rfl (HSub.pick 0 rfl (HSub.pick 2 rfl (HSub.pick 2 rfl (HSub.nil _)))))))
                ·
                  refine StepM.alloc rfl rfl rfl rfl rfl Tryz.zeroValue24 (fun b13 => ?_)
                  refine RunM.pick [10] (by kernel_rfl) rfl rfl (fun i hi => ?_)
                  obtain rfl : i = 10 := by simpa using hi
                  refine StepM.grows rfl rfl rfl rfl (z_app rfl rfl hdb hbl rfl rfl rfl rfl rfl (i := 2) rfl) (fun g37 hv37 => ?_)
                  refine RunM.pure (i := 13) rfl rfl rfl rfl (fun _ => Still.build_1_1 (fun x0_0 x1_0 => .agg #[x0_0, x1_0]) rfl rfl rfl (fun _ => by kernel_rfl)) (by kernel_rfl) (by kernel_rfl) rfl ?_
                  refine RunM.pick [16] (by kernel_rfl) rfl rfl (fun i hi => ?_)
                  obtain rfl : i = 16 := by simpa using hi
                  refine StepM.store rfl rfl rfl rfl rfl rfl (m := 1) rfl Tryz.sizeOf24 rfl rfl rfl (by simp) ?_
                  refine RunM.done (by kernel_rfl) ?_
                  show RunL _ _ _ [_] _ _
                  refine RunL.does0 rfl rfl (Does.store rfl rfl rfl (i := 2) rfl Tryz.sizeOf24 rfl (rfl) rfl) (fun _ _ => ?_)
                  refine RunL.nil ?_
                  exact Ends.meetG (b13, b14, g30, g37) ⟨hv30, hv37⟩ (Fr.Sub.cons rfl (Fr.Sub.cons rfl (Fr.Sub.nil _))) (Fr.Sub.cons rfl (Fr.Sub.cons rfl (Fr.Sub.cons rfl (Fr.Sub.cons rfl (Fr.Sub.cons rfl (Fr.Sub.cons rfl (Fr.Sub.nil _))))))) (HSub.pick 1 rfl (HSub.pick 1 rfl (HSub.pick 2 rfl (HSub.pick 0 rfl (HSub.pick 2 rfl (HSub.pick 2 rfl (HSub.nil _)))))))
            ·
              refine StepM.alloc rfl rfl rfl rfl rfl Tryz.zeroValue24 (fun b13 => ?_)
              refine RunM.pick [7, 15] (by kernel_rfl) rfl rfl (fun i hi => ?_)
              simp only [List.mem_cons, List.not_mem_nil, or_false] at hi
              rcases hi with rfl | rfl
              ·
                refine StepM.grows rfl rfl rfl rfl (Grows.empty rfl Tryz.underlying22 Tryz.sizeOf62 Tryz.zeroValue62) (fun b34 _ => ?_)
                refine RunM.pick [10, 15] (by kernel_rfl) rfl rfl (fun i hi => ?_)
                simp only [List.mem_cons, List.not_mem_nil, or_false] at hi
                rcases hi with rfl | rfl
                ·
                  refine StepM.grows rfl rfl rfl rfl (z_app rfl rfl hdb hbl rfl rfl rfl rfl rfl (i := 0) rfl) (fun g37 hv37 => ?_)
                  refine RunM.pure (i := 13) rfl rfl rfl rfl (fun _ => Still.build_1_1 (fun x0_0 x1_0 => .agg #[x0_0, x1_0]) rfl rfl rfl (fun _ => by kernel_rfl)) (by kernel_rfl) (by kernel_rfl) rfl ?_
                  refine RunM.pick [15] (by kernel_rfl) rfl rfl (fun i hi => ?_)
                  obtain rfl : i = 15 := by simpa using hi
                  refine StepM.alloc rfl rfl rfl rfl rfl Tryz.zeroValue24 (fun b14 => ?_)
                  refine RunM.pick [16] (by kernel_rfl) rfl rfl (fun i hi => ?_)
                  obtain rfl : i = 16 := by simpa using hi
                  refine StepM.store rfl rfl rfl rfl rfl rfl (m := 3) rfl Tryz.sizeOf24 rfl rfl rfl (by simp) ?_
                  refine RunM.done (by kernel_rfl) ?_
                  show RunL _ _ _ [_] _ _
                  refine RunL.does0 rfl rfl (Does.store rfl rfl rfl (i := 0) rfl Tryz.sizeOf24 rfl (rfl) rfl) (fun _ _ => ?_)
                  refine RunL.nil ?_
                  exact Ends.meetG (b13, b14, g30, g37) ⟨hv30, hv37⟩ (Fr.Sub.cons rfl (Fr.Sub.cons rfl (Fr.Sub.nil _))) (Fr.Sub.cons rfl (Fr.Sub.cons rfl (Fr.Sub.cons rfl (Fr.Sub.cons rfl (Fr.Sub.cons rfl (Fr.Sub.cons rfl (Fr.Sub.nil _))))))) (HSub.pick 3 rfl (HSub.pick 0 rfl (HSub.pick 2 rfl (HSub.pick 0 rfl (HSub.pick 2 rfl (HSub.pick 2 rfl (HSub.nil _)))))))
                ·
                  refine StepM.alloc rfl rfl rfl rfl rfl Tryz.zeroValue24 (fun b14 => ?_)
                  refine RunM.pick [10] (by kernel_rfl) rfl rfl (fun i hi => ?_)
                  obtain rfl : i = 10 := by simpa using hi
                  refine StepM.grows rfl rfl rfl rfl (z_app rfl rfl hdb hbl rfl rfl rfl rfl rfl (i := 1) rfl) (fun g37 hv37 => ?_)
                  refine RunM.pure (i := 13) rfl rfl rfl rfl (fun _ => Still.build_1_1 (fun x0_0 x1_0 => .agg #[x0_0, x1_0]) rfl rfl rfl (fun _ => by kernel_rfl)) (by kernel_rfl) (by kernel_rfl) rfl ?_
                  refine RunM.pick [16] (by kernel_rfl) rfl rfl (fun i hi => ?_)
                  obtain rfl : i = 16 := by simpa using hi
                  refine StepM.store rfl rfl rfl rfl rfl rfl (m := 3) rfl Tryz.sizeOf24 rfl rfl rfl (by simp) ?_
                  refine RunM.done (by kernel_rfl) ?_
                  show RunL _ _ _ [_] _ _
                  refine RunL.does0 rfl rfl (Does.store rfl rfl rfl (i := 1) rfl Tryz.sizeOf24 rfl (rfl) rfl) (fun _ _ => ?_)
                  refine RunL.nil ?_
                  exact Ends.meetG (b13, b14, g30, g37) ⟨hv30, hv37⟩ (Fr.Sub.cons rfl (Fr.Sub.cons rfl (Fr.Sub.nil _))) (Fr.Sub.cons rfl (Fr.Sub.cons rfl (Fr.Sub.cons rfl (Fr.Sub.cons rfl (Fr.Sub.cons rfl (Fr.Sub.cons rfl (Fr.Sub.nil _))))))) (HSub.pick 3 rfl (HSub.pick 1 rfl (HSub.pick 2 rfl (HSub.pick 0 rfl (HSub.pick 2 rfl (HSub.pick 2 rfl (HSub.nil _)))))))
              ·
                refine StepM.alloc rfl rfl rfl rfl rfl Tryz.zeroValue24 (fun b14 => ?_)
                refine RunM.pick [7] (by kernel_rfl) rfl rfl (fun i hi => ?_)
                obtain rfl : i = 7 := by simpa using hi
                refine StepM.grows rfl rfl rfl rfl (Grows.empty rfl Tryz.underlying22 Tryz.sizeOf62 Tryz.zeroValue62) (fun b34 _ => ?_)
                refine RunM.pick [10] (by kernel_rfl) rfl rfl (fun i hi => ?_)
                obtain rfl : i = 10 := by simpa using hi
                refine StepM.grows rfl rfl rfl rfl (z_app rfl rfl hdb hbl rfl rfl rfl rfl rfl (i := 0) rfl) (fun g37 hv37 => ?_)
                refine RunM.pure (i := 13) rfl rfl rfl rfl (fun _ => Still.build_1_1 (fun x0_0 x1_0 => .agg #[x0_0, x1_0]) rfl rfl rfl (fun _ => by kernel_rfl)) (by kernel_rfl) (by kernel_rfl) rfl ?_
                refine RunM.pick [16] (by kernel_rfl) rfl rfl (fun i hi => ?_)
                obtain rfl : i = 16 := by simpa using hi
                refine StepM.store rfl rfl rfl rfl rfl rfl (m := 3) rfl Tryz.sizeOf24 rfl rfl rfl (by simp) ?_
                refine RunM.done (by kernel_rfl) ?_
                show RunL _ _ _ [_] _ _
                refine RunL.does0 rfl rfl (Does.store rfl rfl rfl (i := 2) rfl Tryz.sizeOf24 rfl (rfl) rfl) (fun _ _ => ?_)
                refine RunL.nil ?_
                exact Ends.meetG (b13, b14, g30, g37) ⟨hv30, hv37⟩ (Fr.Sub.cons rfl (Fr.Sub.cons rfl (Fr.Sub.nil _))) (Fr.Sub.cons rfl (Fr.Sub.cons rfl (Fr.Sub.cons rfl (Fr.Sub.cons rfl (Fr.Sub.cons rfl (Fr.Sub.cons rfl (Fr.Sub.nil _))))))) (HSub.pick 3 rfl (HSub.pick 2 rfl (HSub.pick 2 rfl (HSub.pick 0 rfl (HSub.pick 2 rfl (HSub.pick 2 rfl (HSub.nil _)))))))
            ·
              refine StepM.alloc rfl rfl rfl rfl rfl Tryz.zeroValue24 (fun b14 => ?_)
              refine RunM.pick [7, 14] (by kernel_rfl) rfl rfl (fun i hi => ?_)
              simp only [List.mem_cons, List.not_mem_nil, or_false] at hi
              rcases hi with rfl | rfl
              ·
                refine StepM.grows rfl rfl rfl rfl (Grows.empty rfl Tryz.underlying22 Tryz.sizeOf62 Tryz.zeroValue62) (fun b34 _ => ?_)
                refine RunM.pick [10, 14] (by kernel_rfl) rfl rfl (fun i hi => ?_)
                simp only [List.mem_cons, List.not_mem_nil, or_false] at hi
                rcases hi with rfl | rfl
                ·
                  refine StepM.grows rfl rfl rfl rfl (z_app rfl rfl hdb hbl rfl rfl rfl rfl rfl (i := 0) rfl) (fun g37 hv37 => ?_)
                  refine RunM.pure (i := 13) rfl rfl rfl rfl (fun _ => Still.build_1_1 (fun x0_0 x1_0 => .agg #[x0_0, x1_0]) rfl rfl rfl (fun _ => by kernel_rfl)) (by kernel_rfl) (by kernel_rfl) rfl ?_
                  refine RunM.pick [14] (by kernel_rfl) rfl rfl (fun i hi => ?_)
                  obtain rfl : i = 14 := by simpa using hi
                  refine StepM.alloc rfl rfl rfl rfl rfl Tryz.zeroValue24 (fun b13 => ?_)
                  refine RunM.pick [16] (by kernel_rfl) rfl rfl (fun i hi => ?_)
                  obtain rfl : i = 16 := by simpa using hi
                  refine StepM.store rfl rfl rfl rfl rfl rfl (m := 0) rfl Tryz.sizeOf24 rfl rfl rfl (by simp) ?_
                  refine RunM.done (by kernel_rfl) ?_
                  show RunL _ _ _ [_] _ _
                  refine RunL.does0 rfl rfl (Does.store rfl rfl rfl (i := 3) rfl Tryz.sizeOf24 rfl (rfl) rfl) (fun _ _ => ?_)
                  refine RunL.nil ?_
                  exact Ends.meetG (b13, b14, g30, g37) ⟨hv30, hv37⟩ (Fr.Sub.cons rfl (Fr.Sub.cons rfl (Fr.Sub.nil _))) (Fr.Sub.cons rfl (Fr.Sub.cons rfl (Fr.Sub.cons rfl (Fr.Sub.cons rfl (Fr.Sub.cons rfl (Fr.Sub.cons rfl (Fr.Sub.nil _))))))) (HSub.pick 0 rfl (HSub.pick 2 rfl (HSub.pick 2 rfl (HSub.pick 0 rfl (HSub.pick 2 rfl (HSub.pick 2 rfl (HSub.nil _)))))))
                ·
                  refine StepM.alloc rfl rfl rfl rfl rfl Tryz.zeroValue24 (fun b13 => ?_)
                  refine RunM.pick [10] (by kernel_rfl) rfl rfl (fun i hi => ?_)
                  obtain rfl : i = 10 := by simpa using hi
                  refine StepM.grows rfl rfl rfl rfl (z_app rfl rfl hdb hbl rfl rfl rfl rfl rfl (i := 1) rfl) (fun g37 hv37 => ?_)
                  refine RunM.pure (i := 13) rfl rfl rfl rfl (fun _ => Still.build_1_1 (fun x0_0 x1_0 => .agg #[x0_0, x1_0]) rfl rfl rfl (fun _ => by kernel_rfl)) (by kernel_rfl) (by kernel_rfl) rfl ?_
                  refine RunM.pick [16] (by kernel_rfl) rfl rfl (fun i hi => ?_)
                  obtain rfl : i = 16 := by simpa using hi
                  refine StepM.store rfl rfl rfl rfl rfl rfl (m := 1) rfl Tryz.sizeOf24 rfl rfl rfl (by simp) ?_
                  refine RunM.done (by kernel_rfl) ?_
                  show RunL _ _ _ [_] _ _
                  refine RunL.does0 rfl rfl (Does.store rfl rfl rfl (i := 3) rfl Tryz.sizeOf24 rfl (rfl) rfl) (fun _ _ => ?_)
                  refine RunL.nil ?_
                  exact Ends.meetG (b13, b14, g30, g37) ⟨hv30, hv37⟩ (Fr.Sub.cons rfl (Fr.Sub.cons rfl (Fr.Sub.nil _))) (Fr.Sub.cons rfl (Fr.Sub.cons rfl (Fr.Sub.cons rfl (Fr.Sub.cons rfl (Fr.Sub.cons rfl (Fr.Sub.cons rfl (Fr.Sub.nil _))))))) (HSub.pick 1 rfl (HSub.pick 2 rfl (HSub.pick 2 rfl (HSub.pick 0 rfl (HSub.pick 2 rfl (HSub.pick 2 rfl (HSub.nil _)))))))
              ·
                refine StepM.alloc rfl rfl rfl rfl rfl Tryz.zeroValue24 (fun b13 => ?_)
                refine RunM.pick [7] (by kernel_rfl) rfl rfl (fun i hi => ?_)
                obtain rfl : i = 7 := by simpa using hi
                refine StepM.grows rfl rfl rfl rfl (Grows.empty rfl Tryz.underlying22 Tryz.sizeOf62 Tryz.zeroValue62) (fun b34 _ => ?_)
                refine RunM.pick [10] (by kernel_rfl) rfl rfl (fun i hi => ?_)
                obtain rfl : i = 10 := by simpa using hi
                refine StepM.grows rfl rfl rfl rfl (z_app rfl rfl hdb hbl rfl rfl rfl rfl rfl (i := 0) rfl) (fun g37 hv37 => ?_)
                refine RunM.pure (i := 13) rfl rfl rfl rfl (fun _ => Still.build_1_1 (fun x0_0 x1_0 => .agg #[x0_0, x1_0]) rfl rfl rfl (fun _ => by kernel_rfl)) (by kernel_rfl) (by kernel_rfl) rfl ?_
                refine RunM.pick [16] (by kernel_rfl) rfl rfl (fun i hi => ?_)
                obtain rfl : i = 16 := by simpa using hi
                refine StepM.store rfl rfl rfl rfl rfl rfl (m := 2) rfl Tryz.sizeOf24 rfl rfl rfl (by simp) ?_
                refine RunM.done (by kernel_rfl) ?_
                show RunL _ _ _ [_] _ _
                refine RunL.does0 rfl rfl (Does.store rfl rfl rfl (i := 3) rfl Tryz.sizeOf24 rfl (rfl) rfl) (fun _ _ => ?_)
                refine RunL.nil ?_
                exact Ends.meetG (b13, b14, g30, g37) ⟨hv30, hv37⟩ (Fr.Sub.cons rfl (Fr.Sub.cons rfl (Fr.Sub.nil _))) (Fr.Sub.cons rfl (Fr.Sub.cons rfl (Fr.Sub.cons rfl (Fr.Sub.cons rfl (Fr.Sub.cons rfl (Fr.Sub.cons rfl (Fr.Sub.nil _))))))) (HSub.pick 2 rfl (HSub.pick 2 rfl (HSub.pick 2 rfl (HSub.pick 0 rfl (HSub.pick 2 rfl (HSub.pick 2 rfl (HSub.nil _)))))))
          ·
            refine StepM.grows rfl rfl rfl rfl (Grows.empty rfl Tryz.underlying22 Tryz.sizeOf62 Tryz.zeroValue62) (fun b34 _ => ?_)
            refine RunM.pick [3, 14, 15] (by kernel_rfl) rfl rfl (fun i hi => ?_)
            simp only [List.mem_cons, List.not_mem_nil, or_false] at hi
            rcases hi with rfl | rfl | rfl
            ·
              refine StepM.grows rfl rfl rfl rfl (z_app rfl rfl hda hal rfl rfl rfl rfl rfl (i := 1) rfl) (fun g30 hv30 => ?_)
              refine RunM.pure (i := 6) rfl rfl rfl rfl (fun _ => Still.build_1_1 (fun x0_0 x1_0 => .agg #[x0_0, x1_0]) rfl rfl rfl (fun _ => by kernel_rfl)) (by kernel_rfl) (by kernel_rfl) rfl ?_
              refine RunM.pick [10, 14, 15] (by kernel_rfl) rfl rfl (fun i hi => ?_)
              simp only [List.mem_cons, List.not_mem_nil, or_false] at hi
              rcases hi with rfl | rfl | rfl
              ·
                refine StepM.grows rfl rfl rfl rfl (z_app rfl rfl hdb hbl rfl rfl rfl rfl rfl (i := 1) rfl) (fun g37 hv37 => ?_)
                refine RunM.pure (i := 13) rfl rfl rfl rfl (fun _ => Still.build_1_1 (fun x0_0 x1_0 => .agg #[x0_0, x1_0]) rfl rfl rfl (fun _ => by kernel_rfl)) (by kernel_rfl) (by kernel_rfl) rfl ?_
                refine RunM.pick [14, 15] (by kernel_rfl) rfl rfl (fun i hi => ?_)
                simp only [List.mem_cons, List.not_mem_nil, or_false] at hi
                rcases hi with rfl | rfl
                ·
                  refine StepM.alloc rfl rfl rfl rfl rfl Tryz.zeroValue24 (fun b13 => ?_)
                  refine RunM.pick [15] (by kernel_rfl) rfl rfl (fun i hi => ?_)
                  obtain rfl : i = 15 := by simpa using hi
                  refine StepM.alloc rfl rfl rfl rfl rfl Tryz.zeroValue24 (fun b14 => ?_)
                  refine RunM.pick [16] (by kernel_rfl) rfl rfl (fun i hi => ?_)
                  obtain rfl : i = 16 := by simpa using hi
                  refine StepM.store rfl rfl rfl rfl rfl rfl (m := 1) rfl Tryz.sizeOf24 rfl rfl rfl (by simp) ?_
                  refine RunM.done (by kernel_rfl) ?_
                  show RunL _ _ _ [_] _ _
                  refine RunL.does0 rfl rfl (Does.store rfl rfl rfl (i := 0) rfl Tryz.sizeOf24 rfl (rfl) rfl) (fun _ _ => ?_)
                  refine RunL.nil ?_
                  exact Ends.meetG (b13, b14, g30, g37) ⟨hv30, hv37⟩ (Fr.Sub.cons rfl (Fr.Sub.cons rfl (Fr.Sub.nil _))) (Fr.Sub.cons rfl (Fr.Sub.cons rfl (Fr.Sub.cons rfl (Fr.Sub.cons rfl (Fr.Sub.cons rfl (Fr.Sub.cons rfl (Fr.Sub.nil _))))))) (HSub.pick 1 rfl (HSub.pick 0 rfl (HSub.pick 1 rfl (HSub.pick 0 rfl (HSub.pick 2 rfl (HSub.pick 2 rfl (HSub.nil _)))))))
                ·
                  refine StepM.alloc rfl rfl rfl rfl rfl Tryz.zeroValue24 (fun b14 => ?_)
                  refine RunM.pick [14] (by kernel_rfl) rfl rfl (fun i hi => ?_)
                  obtain rfl : i = 14 := by simpa using hi
                  refine StepM.alloc rfl rfl rfl rfl rfl Tryz.zeroValue24 (fun b13 => ?_)
                  refine RunM.pick [16] (by kernel_rfl) rfl rfl (fun i hi => ?_)
                  obtain rfl : i = 16 := by simpa using hi
                  refine StepM.store rfl rfl rfl rfl rfl rfl (m := 0) rfl Tryz.sizeOf24 rfl rfl rfl (by simp) ?_
                  refine RunM.done (by kernel_rfl) ?_
                  show RunL _ _ _ [_] _ _
                  refine RunL.does0 rfl rfl (Does.store rfl rfl rfl (i := 1) rfl Tryz.sizeOf24 rfl (rfl) rfl) (fun _ _ => ?_)
                  refine RunL.nil ?_
                  exact Ends.meetG (b13, b14, g30, g37) ⟨hv30, hv37⟩ (Fr.Sub.cons rfl (Fr.Sub.cons rfl (Fr.Sub.nil _))) (Fr.Sub.cons rfl (Fr.Sub.cons rfl (Fr.Sub.cons rfl (Fr.Sub.cons rfl (Fr.Sub.cons rfl (Fr.Sub.cons rfl (Fr.Sub.nil _))))))) (HSub.pick 0 rfl (HSub.pick 0 rfl (HSub.pick 1 rfl (HSub.pick 0 rfl (HSub.pick 2 rfl (HSub.pick 2 rfl (HSub.nil _)))))))
              ·
                refine StepM.alloc rfl rfl rfl rfl rfl Tryz.zeroValue24 (fun b13 => ?_)
                refine RunM.pick [10, 15] (by kernel_rfl) rfl rfl (fun i hi => ?_)
                simp only [List.mem_cons, List.not_mem_nil, or_false] at hi
                rcases hi with rfl | rfl
                ·
                  refine StepM.grows rfl rfl rfl rfl (z_app rfl rfl hdb hbl rfl rfl rfl rfl rfl (i := 2) rfl) (fun g37 hv37 => ?_)
                  refine RunM.pure (i := 13) rfl rfl rfl rfl (fun _ => Still.build_1_1 (fun x0_0 x1_0 => .agg #[x0_0, x1_0]) rfl rfl rfl (fun _ => by kernel_rfl)) (by kernel_rfl) (by kernel_rfl) rfl ?_
                  refine RunM.pick [15] (by kernel_rfl) rfl rfl (fun i hi => ?_)
                  obtain rfl : i = 15 := by simpa using hi
                  refine StepM.alloc rfl rfl rfl rfl rfl Tryz.zeroValue24 (fun b14 => ?_)
                  refine RunM.pick [16] (by kernel_rfl) rfl rfl (fun i hi => ?_)
                  obtain rfl : i = 16 := by simpa using hi
                  refine StepM.store rfl rfl rfl rfl rfl rfl (m := 2) rfl Tryz.sizeOf24 rfl rfl rfl (by simp) ?_
                  refine RunM.done (by kernel_rfl) ?_
                  show RunL _ _ _ [_] _ _
                  refine RunL.does0 rfl rfl (Does.store rfl rfl rfl (i := 0) rfl Tryz.sizeOf24 rfl (rfl) rfl) (fun _ _ => ?_)
                  refine RunL.nil ?_
                  exact Ends.meetG (b13, b14, g30, g37) ⟨hv30, hv37⟩ (Fr.Sub.cons rfl (Fr.Sub.cons rfl (Fr.Sub.nil _))) (Fr.Sub.cons rfl (Fr.Sub.cons rfl (Fr.Sub.cons rfl (Fr.Sub.cons rfl (Fr.Sub.cons rfl (Fr.Sub.cons rfl (Fr.Sub.nil _))))))) (HSub.pick 2 rfl (HSub.pick 0 rfl (HSub.pick 1 rfl (HSub.pick 0 rfl (HSub.pick 2 rfl (HSub.pick 2 rfl (HSub.nil _)))))))
                ·
                  refine StepM.alloc rfl rfl rfl rfl rfl Tryz.zeroValue24 (fun b14 => ?_)
                  refine RunM.pick [10] (by kernel_rfl) rfl rfl (fun i hi => ?_)
                  obtain rfl : i = 10 := by simpa using hi
                  refine StepM.grows rfl rfl rfl rfl (z_app rfl rfl hdb hbl rfl rfl rfl rfl rfl (i := 3) rfl) (fun g37 hv37 => ?_)
                  refine RunM.pure (i := 13) rfl rfl rfl rfl (fun _ => Still.build_1_1 (fun x0_0 x1_0 => .agg #[x0_0, x1_0]) rfl rfl rfl (fun _ => by kernel_rfl)) (by kernel_rfl) (by kernel_rfl) rfl ?_
                  refine RunM.pick [16] (by kernel_rfl) rfl rfl (fun i hi => ?_)
                  obtain rfl : i = 16 := by simpa using hi
                  refine StepM.store rfl rfl rfl rfl rfl rfl (m := 2) rfl Tryz.sizeOf24 rfl rfl rfl (by simp) ?_
                  refine RunM.done (by kernel_rfl) ?_
                  show RunL _ _ _ [_] _ _
                  refine RunL.does0 rfl rfl (Does.store rfl rfl rfl (i := 1) rfl Tryz.sizeOf24 rfl (rfl) rfl) (fun _ _ => ?_)
                  refine RunL.nil ?_
                  exact Ends.meetG (b13, b14, g30, g37) ⟨hv30, hv37⟩ (Fr.Sub.cons rfl (Fr.Sub.cons rfl (Fr.Sub.nil _))) (Fr.Sub.cons rfl (Fr.Sub.cons rfl (Fr.Sub.cons rfl (Fr.Sub.cons rfl (Fr.Sub.cons rfl (Fr.Sub.cons rfl (Fr.Sub.nil _))))))) (HSub.pick 2 rfl (HSub.pick 1 rfl (HSub.pick 1 rfl (HSub.pick 0 rfl (HSub.pick 2 rfl (HSub.pick 2 rfl (HSub.nil _)))))))
              ·
                refine StepM.alloc rfl rfl rfl rfl rfl Tryz.zeroValue24 (fun b14 => ?_)
                refine RunM.pick [10, 14] (by kernel_rfl) rfl rfl (fun i hi => ?_)
                simp only [List.mem_cons, List.not_mem_nil, or_false] at hi
                rcases hi with rfl | rfl
                ·
                  refine StepM.grows rfl rfl rfl rfl (z_app rfl rfl hdb hbl rfl rfl rfl rfl rfl (i := 2) rfl) (fun g37 hv37 => ?_)
                  refine RunM.pure (i := 13) rfl rfl rfl rfl (fun _ => Still.build_1_1 (fun x0_0 x1_0 => .agg #[x0_0, x1_0]) rfl rfl rfl (fun _ => by kernel_rfl)) (by kernel_rfl) (by kernel_rfl) rfl ?_
                  refine RunM.pick [14] (by kernel_rfl) rfl rfl (fun i hi => ?_)
                  obtain rfl : i = 14 := by simpa using hi
                  refine StepM.alloc rfl rfl rfl rfl rfl Tryz.zeroValue24 (fun b13 => ?_)
                  refine RunM.pick [16] (by kernel_rfl) rfl rfl (fun i hi => ?_)
                  obtain rfl : i = 16 := by simpa using hi
                  refine StepM.store rfl rfl rfl rfl rfl rfl (m := 0) rfl Tryz.sizeOf24 rfl rfl rfl (by simp) ?_
                  refine RunM.done (by kernel_rfl) ?_
                  show RunL _ _ _ [_] _ _
                  refine RunL.does0 rfl rfl (Does.store rfl rfl rfl (i := 2) rfl Tryz.sizeOf24 rfl (rfl) rfl) (fun _ _ => ?_)
                  refine RunL.nil ?_
                  exact Ends.meetG (b13, b14, g30, g37) ⟨hv30, hv37⟩ (Fr.Sub.cons rfl (Fr.Sub.cons rfl (Fr.Sub.nil _))) (Fr.Sub.cons rfl (Fr.Sub.cons rfl (Fr.Sub.cons rfl (Fr.Sub.cons rfl (Fr.Sub.cons rfl (Fr.Sub.cons rfl (Fr.Sub.nil _))))))) (HSub.pick 0 rfl (HSub.pick 1 rfl (HSub.pick 1 rfl (HSub.pick 0 rfl (HSub.pick 2 rfl (HSub.pick 2 rfl (HSub.nil _)))))))
                ·
                  refine StepM.alloc rfl rfl rfl rfl rfl Tryz.zeroValue24 (fun b13 => ?_)
                  refine RunM.pick [10] (by kernel_rfl) rfl rfl (fun i hi => ?_)
                  obtain rfl : i = 10 := by simpa using hi
                  refine StepM.grows rfl rfl rfl rfl (z_app rfl rfl hdb hbl rfl rfl rfl rfl rfl (i := 3) rfl) (fun g37 hv37 => ?_)
                  refine RunM.pure (i := 13) rfl rfl rfl rfl (fun _ => Still.build_1_1 (fun x0_0 x1_0 => .agg #[x0_0, x1_0]) rfl rfl rfl (fun _ => by kernel_rfl)) (by kernel_rfl) (by kernel_rfl) rfl ?_
                  refine RunM.pick [16] (by kernel_rfl) rfl rfl (fun i hi => ?_)
                  obtain rfl : i = 16 := by simpa using hi
                  refine StepM.store rfl rfl rfl rfl rfl rfl (m := 1) rfl Tryz.sizeOf24 rfl rfl rfl (by simp) ?_
                  refine RunM.done (by kernel_rfl) ?_
                  show RunL _ _ _ [_] _ _
                  refine RunL.does0 rfl rfl (Does.store rfl rfl rfl (i := 2) rfl Tryz.sizeOf24 rfl (rfl) rfl) (fun _ _ => ?_)
                  refine RunL.nil ?_
                  exact Ends.meetG (b13, b14, g30, g37) ⟨hv30, hv37⟩ (Fr.Sub.cons rfl (Fr.Sub.cons rfl (Fr.Sub.nil _))) (Fr.Sub.cons rfl (Fr.Sub.cons rfl (Fr.Sub.cons rfl (Fr.Sub.cons rfl (Fr.Sub.cons rfl (Fr.Sub.cons rfl (Fr.Sub.nil _))))))) (HSub.pick 1 rfl (HSub.pick 1 rfl (HSub.pick 1 rfl (HSub.pick 0 rfl (HSub.pick 2 rfl (HSub.pick 2 rfl (HSub.nil _)))))))
            ·
              refine StepM.alloc rfl rfl rfl rfl rfl Tryz.zeroValue24 (fun b13 => ?_)
              refine RunM.pick [3, 15] (by kernel_rfl) rfl rfl (fun i hi => ?_)
              simp only [List.mem_cons, List.not_mem_nil, or_false] at hi
              rcases hi with rfl | rfl
              ·
                refine StepM.grows rfl rfl rfl rfl (z_app rfl rfl hda hal rfl rfl rfl rfl rfl (i := 2) rfl) (fun g30 hv30 => ?_)
                refine RunM.pure (i := 6) rfl rfl rfl rfl (fun _ => Still.build_1_1 (fun x0_0 x1_0 => .agg #[x0_0, x1_0]) rfl rfl rfl (fun _ => by kernel_rfl)) (by kernel_rfl) (by kernel_rfl) rfl ?_
                refine RunM.pick [10, 15] (by kernel_rfl) rfl rfl (fun i hi => ?_)
                simp only [List.mem_cons, List.not_mem_nil, or_false] at hi
                rcases hi with rfl | rfl
                ·
                  refine StepM.grows rfl rfl rfl rfl (z_app rfl rfl hdb hbl rfl rfl rfl rfl rfl (i := 2) rfl) (fun g37 hv37 => ?_)
                  refine RunM.pure (i := 13) rfl rfl rfl rfl (fun _ => Still.build_1_1 (fun x0_0 x1_0 => .agg #[x0_0, x1_0]) rfl rfl rfl (fun _ => by kernel_rfl)) (by kernel_rfl) (by kernel_rfl) rfl ?_
                  refine RunM.pick [15] (by kernel_rfl) rfl rfl (fun i hi => ?_)
                  obtain rfl : i = 15 := by simpa using hi
                  refine StepM.alloc rfl rfl rfl rfl rfl Tryz.zeroValue24 (fun b14 => ?_)
                  refine RunM.pick [16] (by kernel_rfl) rfl rfl (fun i hi => ?_)
                  obtain rfl : i = 16 := by simpa using hi
                  refine StepM.store rfl rfl rfl rfl rfl rfl (m := 3) rfl Tryz.sizeOf24 rfl rfl rfl (by simp) ?_
                  refine RunM.done (by kernel_rfl) ?_
                  show RunL _ _ _ [_] _ _
                  refine RunL.does0 rfl rfl (Does.store rfl rfl rfl (i := 0) rfl Tryz.sizeOf24 rfl (rfl) rfl) (fun _ _ => ?_)
                  refine RunL.nil ?_
                  exact Ends.meetG (b13, b14, g30, g37) ⟨hv30, hv37⟩ (Fr.Sub.cons rfl (Fr.Sub.cons rfl (Fr.Sub.nil _))) (Fr.Sub.cons rfl (Fr.Sub.cons rfl (Fr.Sub.cons rfl (Fr.Sub.cons rfl (Fr.Sub.cons rfl (Fr.Sub.cons rfl (Fr.Sub.nil _))))))) (HSub.pick 3 rfl (HSub.pick 0 rfl (HSub.pick 1 rfl (HSub.pick 0 rfl (HSub.pick 2 rfl (HSub.pick 2 rfl (HSub.nil _)))))))
                ·
                  refine StepM.alloc rfl rfl rfl rfl rfl Tryz.zeroValue24 (fun b14 => ?_)
                  refine RunM.pick [10] (by kernel_rfl) rfl rfl (fun i hi => ?_)
                  obtain rfl : i = 10 := by simpa using hi
                  refine StepM.grows rfl rfl rfl rfl (z_app rfl rfl hdb hbl rfl rfl rfl rfl rfl (i := 3) rfl) (fun g37 hv37 => ?_)
                  refine RunM.pure (i := 13) rfl rfl rfl rfl (fun _ => Still.build_1_1 (fun x0_0 x1_0 => .agg #[x0_0, x1_0]) rfl rfl rfl (fun _ => by kernel_rfl)) (by kernel_rfl) (by kernel_rfl) rfl ?_
                  refine RunM.pick [16] (by kernel_rfl) rfl rfl (fun i hi => ?_)
                  obtain rfl : i = 16 := by simpa using hi
                  refine StepM.store rfl rfl rfl rfl rfl rfl (m := 3) rfl Tryz.sizeOf24 rfl rfl rfl (by simp) ?_
                  refine RunM.done (by kernel_rfl) ?_
                  show RunL _ _ _ [_] _ _
                  refine RunL.does0 rfl rfl (Does.store rfl rfl rfl (i := 1) rfl Tryz.sizeOf24 rfl (rfl) rfl) (fun _ _ => ?_)
                  refine RunL.nil ?_
                  exact Ends.meetG (b13, b14, g30, g37) ⟨hv30, hv37⟩ (Fr.Sub.cons rfl (Fr.Sub.cons rfl (Fr.Sub.nil _))) (Fr.Sub.cons rfl (Fr.Sub.cons rfl (Fr.Sub.cons rfl (Fr.Sub.cons rfl (Fr.Sub.cons rfl (Fr.Sub.cons rfl (Fr.Sub.nil _))))))) (HSub.pick 3 rfl (HSub.pick 1 rfl (HSub.pick 1 rfl (HSub.pick 0 rfl (HSub.pick 2 rfl (HSub.pick 2 rfl (HSub.nil _)))))))
              ·
                refine StepM.alloc rfl rfl rfl rfl rfl Tryz.zeroValue24 (fun b14 => ?_)
                refine RunM.pick [3] (by kernel_rfl) rfl rfl (fun i hi => ?_)
                obtain rfl : i = 3 := by simpa using hi
                refine StepM.grows rfl rfl rfl rfl (z_app rfl rfl hda hal rfl rfl rfl rfl rfl (i := 3) rfl) (fun g30 hv30 => ?_)
                refine RunM.pure (i := 6) rfl rfl rfl rfl (fun _ => Still.build_1_1 (fun x0_0 x1_0 => .agg #[x0_0, x1_0]) rfl rfl rfl (fun _ => by kernel_rfl)) (by kernel_rfl) (by kernel_rfl) rfl ?_
                refine RunM.pick [10] (by kernel_rfl) rfl rfl (fun i hi => ?_)
                obtain rfl : i = 10 := by simpa using hi
                refine StepM.grows rfl rfl rfl rfl (z_app rfl rfl hdb hbl rfl rfl rfl rfl rfl (i := 3) rfl) (fun g37 hv37 => ?_)
                refine RunM.pure (i := 13) rfl rfl rfl rfl (fun _ => Still.build_1_1 (fun x0_0 x1_0 => .agg #[x0_0, x1_0]) rfl rfl rfl (fun _ => by kernel_rfl)) (by kernel_rfl) (by kernel_rfl) rfl ?_
                refine RunM.pick [16] (by kernel_rfl) rfl rfl (fun i hi => ?_)
                obtain rfl : i = 16 := by simpa using hi
                refine StepM.store rfl rfl rfl rfl rfl rfl (m := 3) rfl Tryz.sizeOf24 rfl rfl rfl (by simp) ?_
                refine RunM.done (by kernel_rfl) ?_
                show RunL _ _ _ [_] _ _
                refine RunL.does0 rfl rfl (Does.store rfl rfl rfl (i := 2) rfl Tryz.sizeOf24 rfl (rfl) rfl) (fun _ _ => ?_)
                refine RunL.nil ?_
                exact Ends.meetG (b13, b14, g30, g37) ⟨hv30, hv37⟩ (Fr.Sub.cons rfl (Fr.Sub.cons rfl (Fr.Sub.nil _))) (Fr.Sub.cons rfl (Fr.Sub.cons rfl (Fr.Sub.cons rfl (Fr.Sub.cons rfl (Fr.Sub.cons rfl (Fr.Sub.cons rfl (Fr.Sub.nil _))))))) (HSub.pick 3 rfl (HSub.pick 2 rfl (HSub.pick 1 rfl (HSub.pick 0 rfl (HSub.pick 2 rfl (HSub.pick 2 rfl (HSub.nil _)))))))
            ·
              refine StepM.alloc rfl rfl rfl rfl rfl Tryz.zeroValue24 (fun b14 => ?_)
              refine RunM.pick [3, 14] (by kernel_rfl) rfl rfl (fun i hi => ?_)
              simp only [List.mem_cons, List.not_mem_nil, or_false] at hi
              rcases hi with rfl | rfl
              ·
                refine StepM.grows rfl rfl rfl rfl (z_app rfl rfl hda hal rfl rfl rfl rfl rfl (i := 2) rfl) (fun g30 hv30 => ?_)
                refine RunM.pure (i := 6) rfl rfl rfl rfl (fun _ => Still.build_1_1 (fun x0_0 x1_0 => .agg #[x0_0, x1_0]) rfl rfl rfl (fun _ => by kernel_rfl)) (by kernel_rfl) (by kernel_rfl) rfl ?_
                refine RunM.pick [10, 14] (by kernel_rfl) rfl rfl (fun i hi => ?_)
                simp only [List.mem_cons, List.not_mem_nil, or_false] at hi
                rcases hi with rfl | rfl
                ·
                  refine StepM.grows rfl rfl rfl rfl (z_app rfl rfl hdb hbl rfl rfl rfl rfl rfl (i := 2) rfl) (fun g37 hv37 => ?_)
                  refine RunM.pure (i := 13) rfl rfl rfl rfl (fun _ => Still.build_1_1 (fun x0_0 x1_0 => .agg #[x0_0, x1_0]) rfl rfl rfl (fun _ => by kernel_rfl)) (by kernel_rfl) (by kernel_rfl) rfl ?_
                  refine RunM.pick [14] (by kernel_rfl) rfl rfl (fun i hi => ?_)
                  obtain rfl : i = 14 := by simpa using hi
                  refine StepM.alloc rfl rfl rfl rfl rfl Tryz.zeroValue24 (fun b13 => ?_)
                  refine RunM.pick [16] (by kernel_rfl) rfl rfl (fun i hi => ?_)
                  obtain rfl : i = 16 := by simpa using hi
                  refine StepM.store rfl rfl rfl rfl rfl rfl (m := 0) rfl Tryz.sizeOf24 rfl rfl rfl (by simp) ?_
                  refine RunM.done (by kernel_rfl) ?_
                  show RunL _ _ _ [_] _ _
                  refine RunL.does0 rfl rfl (Does.store rfl rfl rfl (i := 3) rfl Tryz.sizeOf24 rfl (rfl) rfl) (fun _ _ => ?_)
                  refine RunL.nil ?_
                  exact Ends.meetG (b13, b14, g30, g37) ⟨hv30, hv37⟩ (Fr.Sub.cons rfl (Fr.Sub.cons rfl (Fr.Sub.nil _))) (Fr.Sub.cons rfl (Fr.Sub.cons rfl (Fr.Sub.cons rfl (Fr.Sub.cons rfl (Fr.Sub.cons rfl (Fr.Sub.cons rfl (Fr.Sub.nil _))))))) (HSub.pick 0 rfl (HSub.pick 2 rfl (HSub.pick 1 rfl (HSub.pick 0 rfl (HSub.pick 2 rfl (HSub.pick 2 rfl (HSub.nil _)))))))
                ·
                  refine StepM.alloc rfl rfl rfl rfl rfl Tryz.zeroValue24 (fun b13 => ?_)
                  refine RunM.pick [10] (by kernel_rfl) rfl rfl (fun i hi => ?_)
                  obtain rfl : i = 10 := by simpa using hi
                  refine StepM.grows rfl rfl rfl rfl (z_app rfl rfl hdb hbl rfl rfl rfl rfl rfl (i := 3) rfl) (fun g37 hv37 => ?_)
                  refine RunM.pure (i := 13) rfl rfl rfl rfl (fun _ => Still.build_1_1 (fun x0_0 x1_0 => .agg #[x0_0, x1_0]) rfl rfl rfl (fun _ => by kernel_rfl)) (by kernel_rfl) (by kernel_rfl) rfl ?_
                  refine RunM.pick [16] (by kernel_rfl) rfl rfl (fun i hi => ?_)
                  obtain rfl : i = 16 := by simpa using hi
                  refine StepM.store rfl rfl rfl rfl rfl rfl (m := 1) rfl Tryz.sizeOf24 rfl rfl rfl (by simp) ?_
                  refine RunM.done (by kernel_rfl) ?_
                  show RunL _ _ _ [_] _ _
                  refine RunL.does0 rfl rfl (Does.store rfl rfl rfl (i := 3) rfl Tryz.sizeOf24 rfl (rfl) rfl) (fun _ _ => ?_)
                  refine RunL.nil ?_
                  exact Ends.meetG (b13, b14, g30, g37) ⟨hv30, hv37⟩ (Fr.Sub.cons rfl (Fr.Sub.cons rfl (Fr.Sub.nil _))) (Fr.Sub.cons rfl (Fr.Sub.cons rfl (Fr.Sub.cons rfl (Fr.Sub.cons rfl (Fr.Sub.cons rfl (Fr.Sub.cons rfl (Fr.Sub.nil _))))))) (HSub.pick 1 rfl (HSub.pick 2 rfl (HSub.pick 1 rfl (HSub.pick 0 rfl (HSub.pick 2 rfl (HSub.pick 2 rfl (HSub.nil _)))))))
              ·
                refine StepM.alloc rfl rfl rfl rfl rfl Tryz.zeroValue24 (fun b13 => ?_)
                refine RunM.pick [3] (by kernel_rfl) rfl rfl (fun i hi => ?_)
                obtain rfl : i = 3 := by simpa using hi
                refine StepM.grows rfl rfl rfl rfl (z_app rfl rfl hda hal rfl rfl rfl rfl rfl (i := 3) rfl) (fun g30 hv30 => ?_)
                refine RunM.pure (i := 6) rfl rfl rfl rfl (fun _ => Still.build_1_1 (fun x0_0 x1_0 => .agg #[x0_0, x1_0]) rfl rfl rfl (fun _ => by kernel_rfl)) (by kernel_rfl) (by kernel_rfl) rfl ?_
                refine RunM.pick [10] (by kernel_rfl) rfl rfl (fun i hi => ?_)
                obtain rfl : i = 10 := by simpa using hi
                refine StepM.grows rfl rfl rfl rfl (z_app rfl rfl hdb hbl rfl rfl rfl rfl rfl (i := 3) rfl) (fun g37 hv37 => ?_)
                refine RunM.pure (i := 13) rfl rfl rfl rfl (fun _ => Still.build_1_1 (fun x0_0 x1_0 => .agg #[x0_0, x1_0]) rfl rfl rfl (fun _ => by kernel_rfl)) (by kernel_rfl) (by kernel_rfl) rfl ?_
                refine RunM.pick [16] (by kernel_rfl) rfl rfl (fun i hi => ?_)
                obtain rfl : i = 16 := by simpa using hi
                refine StepM.store rfl rfl rfl rfl rfl rfl (m := 2) rfl Tryz.sizeOf24 rfl rfl rfl (by simp) ?_
                refine RunM.done (by kernel_rfl) ?_
                show RunL _ _ _ [_] _ _
                refine RunL.does0 rfl rfl (Does.store rfl rfl rfl (i := 3) rfl Tryz.sizeOf24 rfl (rfl) rfl) (fun _ _ => ?_)
                refine RunL.nil ?_
                exact Ends.meetG (b13, b14, g30, g37) ⟨hv30, hv37⟩ (Fr.Sub.cons rfl (Fr.Sub.cons rfl (Fr.Sub.nil _))) (Fr.Sub.cons rfl (Fr.Sub.cons rfl (Fr.Sub.cons rfl (Fr.Sub.cons rfl (Fr.Sub.cons rfl (Fr.Sub.cons rfl (Fr.Sub.nil _))))))) (HSub.pick 2 rfl (HSub.pick 2 rfl (HSub.pick 1 rfl (HSub.pick 0 rfl (HSub.pick 2 rfl (HSub.pick 2 rfl (HSub.nil _)))))))
          ·
            refine StepM.alloc rfl rfl rfl rfl rfl Tryz.zeroValue24 (fun b13 => ?_)
            refine RunM.pick [3, 7, 15] (by kernel_rfl) rfl rfl (fun i hi => ?_)
            simp only [List.mem_cons, List.not_mem_nil, or_false] at hi
            rcases hi with rfl | rfl | rfl
            ·
              refine StepM.grows rfl rfl rfl rfl (z_app rfl rfl hda hal rfl rfl rfl rfl rfl (i := 1) rfl) (fun g30 hv30 => ?_)
              refine RunM.pure (i := 6) rfl rfl rfl rfl (fun _ => Still.build_1_1 (fun x0_0 x1_0 => .agg #[x0_0, x1_0]) rfl rfl rfl (fun _ => by kernel_rfl)) (by kernel_rfl) (by kernel_rfl) rfl ?_
              refine RunM.pick [7, 15] (by kernel_rfl) rfl rfl (fun i hi => ?_)
              simp only [List.mem_cons, List.not_mem_nil, or_false] at hi
              rcases hi with rfl | rfl
              ·
                refine StepM.grows rfl rfl rfl rfl (Grows.empty rfl Tryz.underlying22 Tryz.sizeOf62 Tryz.zeroValue62) (fun b34 _ => ?_)
                refine RunM.pick [10, 15] (by kernel_rfl) rfl rfl (fun i hi => ?_)
                simp only [List.mem_cons, List.not_mem_nil, or_false] at hi
                rcases hi with rfl | rfl
                ·
                  refine StepM.grows rfl rfl rfl rfl (z_app rfl rfl hdb hbl rfl rfl rfl rfl rfl (i := 0) rfl) (fun g37 hv37 => ?_)
                  refine RunM.pure (i := 13) rfl rfl rfl rfl (fun _ => Still.build_1_1 (fun x0_0 x1_0 => .agg #[x0_0, x1_0]) rfl rfl rfl (fun _ => by kernel_rfl)) (by kernel_rfl) (by kernel_rfl) rfl ?_
                  refine RunM.pick [15] (by kernel_rfl) rfl rfl (fun i hi => ?_)
                  obtain rfl : i = 15 := by simpa using hi
                  refine StepM.alloc rfl rfl rfl rfl rfl Tryz.zeroValue24 (fun b14 => ?_)
                  refine RunM.pick [16] (by kernel_rfl) rfl rfl (fun i hi => ?_)
                  obtain rfl : i = 16 := by simpa using hi
                  refine StepM.store rfl rfl rfl rfl rfl rfl (m := 4) rfl Tryz.sizeOf24 rfl rfl rfl (by simp) ?_
                  refine RunM.done (by kernel_rfl) ?_
                  show RunL _ _ _ [_] _ _
                  refine RunL.does0 rfl rfl (Does.store rfl rfl rfl (i := 0) rfl Tryz.sizeOf24 rfl (rfl) rfl) (fun _ _ => ?_)
                  refine RunL.nil ?_
                  exact Ends.meetG (b13, b14, g30, g37) ⟨hv30, hv37⟩ (Fr.Sub.cons rfl (Fr.Sub.cons rfl (Fr.Sub.nil _))) (Fr.Sub.cons rfl (Fr.Sub.cons rfl (Fr.Sub.cons rfl (Fr.Sub.cons rfl (Fr.Sub.cons rfl (Fr.Sub.cons rfl (Fr.Sub.nil _))))))) (HSub.pick 4 rfl (HSub.pick 0 rfl (HSub.pick 2 rfl (HSub.pick 0 rfl (HSub.pick 2 rfl (HSub.pick 2 rfl (HSub.nil _)))))))
                ·
                  refine StepM.alloc rfl rfl rfl rfl rfl Tryz.zeroValue24 (fun b14 => ?_)
                  refine RunM.pick [10] (by kernel_rfl) rfl rfl (fun i hi => ?_)
                  obtain rfl : i = 10 := by simpa using hi
                  refine StepM.grows rfl rfl rfl rfl (z_app rfl rfl hdb hbl rfl rfl rfl rfl rfl (i := 1) rfl) (fun g37 hv37 => ?_)
                  refine RunM.pure (i := 13) rfl rfl rfl rfl (fun _ => Still.build_1_1 (fun x0_0 x1_0 => .agg #[x0_0, x1_0]) rfl rfl rfl (fun _ => by kernel_rfl)) (by kernel_rfl) (by kernel_rfl) rfl ?_
                  refine RunM.pick [16] (by kernel_rfl) rfl rfl (fun i hi => ?_)
                  obtain rfl : i = 16 := by simpa using hi
                  refine StepM.store rfl rfl rfl rfl rfl rfl (m := 4) rfl Tryz.sizeOf24 rfl rfl rfl (by simp) ?_
                  refine RunM.done (by kernel_rfl) ?_
                  show RunL _ _ _ [_] _ _
                  refine RunL.does0 rfl rfl (Does.store rfl rfl rfl (i := 1) rfl Tryz.sizeOf24 rfl (rfl) rfl) (fun _ _ => ?_)
                  refine RunL.nil ?_
                  exact Ends.meetG (b13, b14, g30, g37) ⟨hv30, hv37⟩ (Fr.Sub.cons rfl (Fr.Sub.cons rfl (Fr.Sub.nil _))) (Fr.Sub.cons rfl (Fr.Sub.cons rfl (Fr.Sub.cons rfl (Fr.Sub.cons rfl (Fr.Sub.cons rfl (Fr.Sub.cons rfl (Fr.Sub.nil _))))))) (HSub.pick 4 rfl (HSub.pick 1 rfl (HSub.pick 2 rfl (HSub.pick 0 rfl (HSub.pick 2 rfl (HSub.pick 2 rfl (HSub.nil _)))))))
              ·
                refine StepM.alloc rfl rfl rfl rfl rfl Tryz.zeroValue24 (fun b14 => ?_)
                refine RunM.pick [7] (by kernel_rfl) rfl rfl (fun i hi => ?_)
                obtain rfl : i = 7 := by simpa using hi
                refine StepM.grows rfl rfl rfl rfl (Grows.empty rfl Tryz.underlying22 Tryz.sizeOf62 Tryz.zeroValue62) (fun b34 _ => ?_)
                refine RunM.pick [10] (by kernel_rfl) rfl rfl (fun i hi => ?_)
                obtain rfl : i = 10 := by simpa using hi
                refine StepM.grows rfl rfl rfl rfl (z_app rfl rfl hdb hbl rfl rfl rfl rfl rfl (i := 0) rfl) (fun g37 hv37 => ?_)
                refine RunM.pure (i := 13) rfl rfl rfl rfl (fun _ => Still.build_1_1 (fun x0_0 x1_0 => .agg #[x0_0, x1_0]) rfl rfl rfl (fun _ => by kernel_rfl)) (by kernel_rfl) (by kernel_rfl) rfl ?_
                refine RunM.pick [16] (by kernel_rfl) rfl rfl (fun i hi => ?_)
                obtain rfl : i = 16 := by simpa using hi
                refine StepM.store rfl rfl rfl rfl rfl rfl (m := 4) rfl Tryz.sizeOf24 rfl rfl rfl (by simp) ?_
                refine RunM.done (by kernel_rfl) ?_
                show RunL _ _ _ [_] _ _
                refine RunL.does0 rfl rfl (Does.store rfl rfl rfl (i := 2) rfl Tryz.sizeOf24 rfl (rfl) rfl) (fun _ _ => ?_)
                refine RunL.nil ?_
                exact Ends.meetG (b13, b14, g30, g37) ⟨hv30, hv37⟩ (Fr.Sub.cons rfl (Fr.Sub.cons rfl (Fr.Sub.nil _))) (Fr.Sub.cons rfl (Fr.Sub.cons rfl (Fr.Sub.cons rfl (Fr.Sub.cons rfl (Fr.Sub.cons rfl (Fr.Sub.cons rfl (Fr.Sub.nil _))))))) (HSub.pick 4 rfl (HSub.pick 2 rfl (HSub.pick 2 rfl (HSub.pick 0 rfl (HSub.pick 2 rfl (HSub.pick 2 rfl (HSub.nil _)))))))
            ·
              refine StepM.grows rfl rfl rfl rfl (Grows.empty rfl Tryz.underlying22 Tryz.sizeOf62 Tryz.zeroValue62) (fun b34 _ => ?_)
              refine RunM.pick [3, 15] (by kernel_rfl) rfl rfl (fun i hi => ?_)
              simp only [List.mem_cons, List.not_mem_nil, or_false] at hi
              rcases hi with rfl | rfl
              ·
                refine StepM.grows rfl rfl rfl rfl (z_app rfl rfl hda hal rfl rfl rfl rfl rfl (i := 2) rfl) (fun g30 hv30 => ?_)
                refine RunM.pure (i := 6) rfl rfl rfl rfl (fun _ => Still.build_1_1 (fun x0_0 x1_0 => .agg #[x0_0, x1_0]) rfl rfl rfl (fun _ => by kernel_rfl)) (by kernel_rfl) (by kernel_rfl) rfl ?_
                refine RunM.pick [10, 15] (by kernel_rfl) rfl rfl (fun i hi => ?_)
                simp only [List.mem_cons, List.not_mem_nil, or_false] at hi
                rcases hi with rfl | rfl
                ·
                  refine StepM.grows rfl rfl rfl rfl (z_app rfl rfl hdb hbl rfl rfl rfl rfl rfl (i := 1) rfl) (fun g37 hv37 => ?_)
                  refine RunM.pure (i := 13) rfl rfl rfl rfl (fun _ => Still.build_1_1 (fun x0_0 x1_0 => .agg #[x0_0, x1_0]) rfl rfl rfl (fun _ => by kernel_rfl)) (by kernel_rfl) (by kernel_rfl) rfl ?_
                  refine RunM.pick [15] (by kernel_rfl) rfl rfl (fun i hi => ?_)
                  obtain rfl : i = 15 := by simpa using hi
                  refine StepM.alloc rfl rfl rfl rfl rfl Tryz.zeroValue24 (fun b14 => ?_)
                  refine RunM.pick [16] (by kernel_rfl) rfl rfl (fun i hi => ?_)
                  obtain rfl : i = 16 := by simpa using hi
                  refine StepM.store rfl rfl rfl rfl rfl rfl (m := 4) rfl Tryz.sizeOf24 rfl rfl rfl (by simp) ?_
                  refine RunM.done (by kernel_rfl) ?_
                  show RunL _ _ _ [_] _ _
                  refine RunL.does0 rfl rfl (Does.store rfl rfl rfl (i := 0) rfl Tryz.sizeOf24 rfl (rfl) rfl) (fun _ _ => ?_)
                  refine RunL.nil ?_
                  exact Ends.meetG (b13, b14, g30, g37) ⟨hv30, hv37⟩ (Fr.Sub.cons rfl (Fr.Sub.cons rfl (Fr.Sub.nil _))) (Fr.Sub.cons rfl (Fr.Sub.cons rfl (Fr.Sub.cons rfl (Fr.Sub.cons rfl (Fr.Sub.cons rfl (Fr.Sub.cons rfl (Fr.Sub.nil _))))))) (HSub.pick 4 rfl (HSub.pick 0 rfl (HSub.pick 1 rfl (HSub.pick 0 rfl (HSub.pick 2 rfl (HSub.pick 2 rfl (HSub.nil _)))))))
                ·
                  refine StepM.alloc rfl rfl rfl rfl rfl Tryz.zeroValue24 (fun b14 => ?_)
                  refine RunM.pick [10] (by kernel_rfl) rfl rfl (fun i hi => ?_)
                  obtain rfl : i = 10 := by simpa using hi
                  refine StepM.grows rfl rfl rfl rfl (z_app rfl rfl hdb hbl rfl rfl rfl rfl rfl (i := 2) rfl) (fun g37 hv37 => ?_)
                  refine RunM.pure (i := 13) rfl rfl rfl rfl (fun _ => Still.build_1_1 (fun x0_0 x1_0 => .agg #[x0_0, x1_0]) rfl rfl rfl (fun _ => by kernel_rfl)) (by kernel_rfl) (by kernel_rfl) rfl ?_
                  refine RunM.pick [16] (by kernel_rfl) rfl rfl (fun i hi => ?_)
                  obtain rfl : i = 16 := by simpa using hi
                  refine StepM.store rfl rfl rfl rfl rfl rfl (m := 4) rfl Tryz.sizeOf24 rfl rfl rfl (by simp) ?_
                  refine RunM.done (by kernel_rfl) ?_
                  show RunL _ _ _ [_] _ _
                  refine RunL.does0 rfl rfl (Does.store rfl rfl rfl (i := 1) rfl Tryz.sizeOf24 rfl (rfl) rfl) (fun _ _ => ?_)
                  refine RunL.nil ?_
                  exact Ends.meetG (b13, b14, g30, g37) ⟨hv30, hv37⟩ (Fr.Sub.cons rfl (Fr.Sub.cons rfl (Fr.Sub.nil _))) (Fr.Sub.cons rfl (Fr.Sub.cons rfl (Fr.Sub.cons rfl (Fr.Sub.cons rfl (Fr.Sub.cons rfl (Fr.Sub.cons rfl (Fr.Sub.nil _))))))) (HSub.pick 4 rfl (HSub.pick 1 rfl (HSub.pick 1 rfl (HSub.pick 0 rfl (HSub.pick 2 rfl (HSub.pick 2 rfl (HSub.nil _)))))))
              ·
                refine StepM.alloc rfl rfl rfl rfl rfl Tryz.zeroValue24 (fun b14 => ?_)
                refine RunM.pick [3] (by kernel_rfl) rfl rfl (fun i hi => ?_)
                obtain rfl : i = 3 := by simpa using hi
                refine StepM.grows rfl rfl rfl rfl (z_app rfl rfl hda hal rfl rfl rfl rfl rfl (i := 3) rfl) (fun g30 hv30 => ?_)
                refine RunM.pure (i := 6) rfl rfl rfl rfl (fun _ => Still.build_1_1 (fun x0_0 x1_0 => .agg #[x0_0, x1_0]) rfl rfl rfl (fun _ => by kernel_rfl)) (by kernel_rfl) (by kernel_rfl) rfl ?_
                refine RunM.pick [10] (by kernel_rfl) rfl rfl (fun i hi => ?_)
                obtain rfl : i = 10 := by simpa using hi
                refine StepM.grows rfl rfl rfl rfl (z_app rfl rfl hdb hbl rfl rfl rfl rfl rfl (i := 2) rfl) (fun g37 hv37 => ?_)
                refine RunM.pure (i := 13) rfl rfl rfl rfl (fun _ => Still.build_1_1 (fun x0_0 x1_0 => .agg #[x0_0, x1_0]) rfl rfl rfl (fun _ => by kernel_rfl)) (by kernel_rfl) (by kernel_rfl) rfl ?_
                refine RunM.pick [16] (by kernel_rfl) rfl rfl (fun i hi => ?_)
                obtain rfl : i = 16 := by simpa using hi
                refine StepM.store rfl rfl rfl rfl rfl rfl (m := 4) rfl Tryz.sizeOf24 rfl rfl rfl (by simp) ?_
                refine RunM.done (by kernel_rfl) ?_
                show RunL _ _ _ [_] _ _
                refine RunL.does0 rfl rfl (Does.store rfl rfl rfl (i := 2) rfl Tryz.sizeOf24 rfl (rfl) rfl) (fun _ _ => ?_)
                refine RunL.nil ?_
                exact Ends.meetG (b13, b14, g30, g37) ⟨hv30, hv37⟩ (Fr.Sub.cons rfl (Fr.Sub.cons rfl (Fr.Sub.nil _))) (Fr.Sub.cons rfl (Fr.Sub.cons rfl (Fr.Sub.cons rfl (Fr.Sub.cons rfl (Fr.Sub.cons rfl (Fr.Sub.cons rfl (Fr.Sub.nil _))))))) (HSub.pick 4 rfl (HSub.pick 2 rfl (HSub.pick 1 rfl (HSub.pick 0 rfl (HSub.pick 2 rfl (HSub.pick 2 rfl (HSub.nil _)))))))
            ·
              refine StepM.alloc rfl rfl rfl rfl rfl Tryz.zeroValue24 (fun b14 => ?_)
              refine RunM.pick [3, 7] (by kernel_rfl) rfl rfl (fun i hi => ?_)
              simp only [List.mem_cons, List.not_mem_nil, or_false] at hi
              rcases hi with rfl | rfl
              ·
                refine StepM.grows rfl rfl rfl rfl (z_app rfl rfl hda hal rfl rfl rfl rfl rfl (i := 2) rfl) (fun g30 hv30 => ?_)
                refine RunM.pure (i := 6) rfl rfl rfl rfl (fun _ => Still.build_1_1 (fun x0_0 x1_0 => .agg #[x0_0, x1_0]) rfl rfl rfl (fun _ => by kernel_rfl)) (by kernel_rfl) (by kernel_rfl) rfl ?_
                refine RunM.pick [7] (by kernel_rfl) rfl rfl (fun i hi => ?_)
                obtain rfl : i = 7 := by simpa using hi
                refine StepM.grows rfl rfl rfl rfl (Grows.empty rfl Tryz.underlying22 Tryz.sizeOf62 Tryz.zeroValue62) (fun b34 _ => ?_)
                refine RunM.pick [10] (by kernel_rfl) rfl rfl (fun i hi => ?_)
                obtain rfl : i = 10 := by simpa using hi
                refine StepM.grows rfl rfl rfl rfl (z_app rfl rfl hdb hbl rfl rfl rfl rfl rfl (i := 0) rfl) (fun g37 hv37 => ?_)
                refine RunM.pure (i := 13) rfl rfl rfl rfl (fun _ => Still.build_1_1 (fun x0_0 x1_0 => .agg #[x0_0, x1_0]) rfl rfl rfl (fun _ => by kernel_rfl)) (by kernel_rfl) (by kernel_rfl) rfl ?_
                refine RunM.pick [16] (by kernel_rfl) rfl rfl (fun i hi => ?_)
                obtain rfl : i = 16 := by simpa using hi
                refine StepM.store rfl rfl rfl rfl rfl rfl (m := 4) rfl Tryz.sizeOf24 rfl rfl rfl (by simp) ?_
                refine RunM.done (by kernel_rfl) ?_
                show RunL _ _ _ [_] _ _
                refine RunL.does0 rfl rfl (Does.store rfl rfl rfl (i := 3) rfl Tryz.sizeOf24 rfl (rfl) rfl) (fun _ _ => ?_)
                refine RunL.nil ?_
                exact Ends.meetG (b13, b14, g30, g37) ⟨hv30, hv37⟩ (Fr.Sub.cons rfl (Fr.Sub.cons rfl (Fr.Sub.nil _))) (Fr.Sub.cons rfl (Fr.Sub.cons rfl (Fr.Sub.cons rfl (Fr.Sub.cons rfl (Fr.Sub.cons rfl (Fr.Sub.cons rfl (Fr.Sub.nil _))))))) (HSub.pick 4 rfl (HSub.pick 3 rfl (HSub.pick 2 rfl (HSub.pick 0 rfl (HSub.pick 2 rfl (HSub.pick 2 rfl (HSub.nil _)))))))
              ·
                refine StepM.grows rfl rfl rfl rfl (Grows.empty rfl Tryz.underlying22 Tryz.sizeOf62 Tryz.zeroValue62) (fun b34 _ => ?_)
                refine RunM.pick [3] (by kernel_rfl) rfl rfl (fun i hi => ?_)
                obtain rfl : i = 3 := by simpa using hi
                refine StepM.grows rfl rfl rfl rfl (z_app rfl rfl hda hal rfl rfl rfl rfl rfl (i := 3) rfl) (fun g30 hv30 => ?_)
                refine RunM.pure (i := 6) rfl rfl rfl rfl (fun _ => Still.build_1_1 (fun x0_0 x1_0 => .agg #[x0_0, x1_0]) rfl rfl rfl (fun _ => by kernel_rfl)) (by kernel_rfl) (by kernel_rfl) rfl ?_
                refine RunM.pick [10] (by kernel_rfl) rfl rfl (fun i hi => ?_)
                obtain rfl : i = 10 := by simpa using hi
                refine StepM.grows rfl rfl rfl rfl (z_app rfl rfl hdb hbl rfl rfl rfl rfl rfl (i := 1) rfl) (fun g37 hv37 => ?_)
                refine RunM.pure (i := 13) rfl rfl rfl rfl (fun _ => Still.build_1_1 (fun x0_0 x1_0 => .agg #[x0_0, x1_0]) rfl rfl rfl (fun _ => by kernel_rfl)) (by kernel_rfl) (by kernel_rfl) rfl ?_
                refine RunM.pick [16] (by kernel_rfl) rfl rfl (fun i hi => ?_)
                obtain rfl : i = 16 := by simpa using hi
                refine StepM.store rfl rfl rfl rfl rfl rfl (m := 4) rfl Tryz.sizeOf24 rfl rfl rfl (by simp) ?_
                refine RunM.done (by kernel_rfl) ?_
                show RunL _ _ _ [_] _ _
                refine RunL.does0 rfl rfl (Does.store rfl rfl rfl (i := 3) rfl Tryz.sizeOf24 rfl (rfl) rfl) (fun _ _ => ?_)
                refine RunL.nil ?_
                exact Ends.meetG (b13, b14, g30, g37) ⟨hv30, hv37⟩ (Fr.Sub.cons rfl (Fr.Sub.cons rfl (Fr.Sub.nil _))) (Fr.Sub.cons rfl (Fr.Sub.cons rfl (Fr.Sub.cons rfl (Fr.Sub.cons rfl (Fr.Sub.cons rfl (Fr.Sub.cons rfl (Fr.Sub.nil _))))))) (HSub.pick 4 rfl (HSub.pick 3 rfl (HSub.pick 1 rfl (HSub.pick 0 rfl (HSub.pick 2 rfl (HSub.pick 2 rfl (HSub.nil _)))))))
          ·
            refine StepM.alloc rfl rfl rfl rfl rfl Tryz.zeroValue24 (fun b14 => ?_)
            refine RunM.pick [3, 7, 14] (by kernel_rfl) rfl rfl (fun i hi => ?_)
            simp only [List.mem_cons, List.not_mem_nil, or_false] at hi
            rcases hi with rfl | rfl | rfl
            ·
              refine StepM.grows rfl rfl rfl rfl (z_app rfl rfl hda hal rfl rfl rfl rfl rfl (i := 1) rfl) (fun g30 hv30 => ?_)
              refine RunM.pure (i := 6) rfl rfl rfl rfl (fun _ => Still.build_1_1 (fun x0_0 x1_0 => .agg #[x0_0, x1_0]) rfl rfl rfl (fun _ => by kernel_rfl)) (by kernel_rfl) (by kernel_rfl) rfl ?_
              refine RunM.pick [7, 14] (by kernel_rfl) rfl rfl (fun i hi => ?_)
              simp only [List.mem_cons, List.not_mem_nil, or_false] at hi
              rcases hi with rfl | rfl
              ·
                refine StepM.grows rfl rfl rfl rfl (Grows.empty rfl Tryz.underlying22 Tryz.sizeOf62 Tryz.zeroValue62) (fun b34 _ => ?_)
                refine RunM.pick [10, 14] (by kernel_rfl) rfl rfl (fun i hi => ?_)
                simp only [List.mem_cons, List.not_mem_nil, or_false] at hi
                rcases hi with rfl | rfl
                ·
                  refine StepM.grows rfl rfl rfl rfl (z_app rfl rfl hdb hbl rfl rfl rfl rfl rfl (i := 0) rfl) (fun g37 hv37 => ?_)
                  refine RunM.pure (i := 13) rfl rfl rfl rfl (fun _ => Still.build_1_1 (fun x0_0 x1_0 => .agg #[x0_0, x1_0]) rfl rfl rfl (fun _ => by kernel_rfl)) (by kernel_rfl) (by kernel_rfl) rfl ?_
                  refine RunM.pick [14] (by kernel_rfl) rfl rfl (fun i hi => ?_)
                  obtain rfl : i = 14 := by simpa using hi
                  refine StepM.alloc rfl rfl rfl rfl rfl Tryz.zeroValue24 (fun b13 => ?_)
                  refine RunM.pick [16] (by kernel_rfl) rfl rfl (fun i hi => ?_)
                  obtain rfl : i = 16 := by simpa using hi
                  refine StepM.store rfl rfl rfl rfl rfl rfl (m := 0) rfl Tryz.sizeOf24 rfl rfl rfl (by simp) ?_
                  refine RunM.done (by kernel_rfl) ?_
                  show RunL _ _ _ [_] _ _
                  refine RunL.does0 rfl rfl (Does.store rfl rfl rfl (i := 4) rfl Tryz.sizeOf24 rfl (rfl) rfl) (fun _ _ => ?_)
                  refine RunL.nil ?_
                  exact Ends.meetG (b13, b14, g30, g37) ⟨hv30, hv37⟩ (Fr.Sub.cons rfl (Fr.Sub.cons rfl (Fr.Sub.nil _))) (Fr.Sub.cons rfl (Fr.Sub.cons rfl (Fr.Sub.cons rfl (Fr.Sub.cons rfl (Fr.Sub.cons rfl (Fr.Sub.cons rfl (Fr.Sub.nil _))))))) (HSub.pick 0 rfl (HSub.pick 3 rfl (HSub.pick 2 rfl (HSub.pick 0 rfl (HSub.pick 2 rfl (HSub.pick 2 rfl (HSub.nil _)))))))
                ·
                  refine StepM.alloc rfl rfl rfl rfl rfl Tryz.zeroValue24 (fun b13 => ?_)
                  refine RunM.pick [10] (by kernel_rfl) rfl rfl (fun i hi => ?_)
                  obtain rfl : i = 10 := by simpa using hi
                  refine StepM.grows rfl rfl rfl rfl (z_app rfl rfl hdb hbl rfl rfl rfl rfl rfl (i := 1) rfl) (fun g37 hv37 => ?_)
                  refine RunM.pure (i := 13) rfl rfl rfl rfl (fun _ => Still.build_1_1 (fun x0_0 x1_0 => .agg #[x0_0, x1_0]) rfl rfl rfl (fun _ => by kernel_rfl)) (by kernel_rfl) (by kernel_rfl) rfl ?_
                  refine RunM.pick [16] (by kernel_rfl) rfl rfl (fun i hi => ?_)
                  obtain rfl : i = 16 := by simpa using hi
                  refine StepM.store rfl rfl rfl rfl rfl rfl (m := 1) rfl Tryz.sizeOf24 rfl rfl rfl (by simp) ?_
                  refine RunM.done (by kernel_rfl) ?_
                  show RunL _ _ _ [_] _ _
                  refine RunL.does0 rfl rfl (Does.store rfl rfl rfl (i := 4) rfl Tryz.sizeOf24 rfl (rfl) rfl) (fun _ _ => ?_)
                  refine RunL.nil ?_
                  exact Ends.meetG (b13, b14, g30, g37) ⟨hv30, hv37⟩ (Fr.Sub.cons rfl (Fr.Sub.cons rfl (Fr.Sub.nil _))) (Fr.Sub.cons rfl (Fr.Sub.cons rfl (Fr.Sub.cons rfl (Fr.Sub.cons rfl (Fr.Sub.cons rfl (Fr.Sub.cons rfl (Fr.Sub.nil _))))))) (HSub.pick 1 rfl (HSub.pick 3 rfl (HSub.pick 2 rfl (HSub.pick 0 rfl (HSub.pick 2 rfl (HSub.pick 2 rfl (HSub.nil _)))))))
              ·
                refine StepM.alloc rfl rfl rfl rfl rfl Tryz.zeroValue24 (fun b13 => ?_)
                refine RunM.pick [7] (by kernel_rfl) rfl rfl (fun i hi => ?_)
                obtain rfl : i = 7 := by simpa using hi
                refine StepM.grows rfl rfl rfl rfl (Grows.empty rfl Tryz.underlying22 Tryz.sizeOf62 Tryz.zeroValue62) (fun b34 _ => ?_)
                refine RunM.pick [10] (by kernel_rfl) rfl rfl (fun i hi => ?_)
                obtain rfl : i = 10 := by simpa using hi
                refine StepM.grows rfl rfl rfl rfl (z_app rfl rfl hdb hbl rfl rfl rfl rfl rfl (i := 0) rfl) (fun g37 hv37 => ?_)
                refine RunM.pure (i := 13) rfl rfl rfl rfl (fun _ => Still.build_1_1 (fun x0_0 x1_0 => .agg #[x0_0, x1_0]) rfl rfl rfl (fun _ => by kernel_rfl)) (by kernel_rfl) (by kernel_rfl) rfl ?_
                refine RunM.pick [16] (by kernel_rfl) rfl rfl (fun i hi => ?_)
                obtain rfl : i = 16 := by simpa using hi
                refine StepM.store rfl rfl rfl rfl rfl rfl (m := 2) rfl Tryz.sizeOf24 rfl rfl rfl (by simp) ?_
                refine RunM.done (by kernel_rfl) ?_
                show RunL _ _ _ [_] _ _
                refine RunL.does0 rfl rfl (Does.store rfl rfl rfl (i := 4) rfl Tryz.sizeOf24 rfl (rfl) rfl) (fun _ _ => ?_)
                refine RunL.nil ?_
                exact Ends.meetG (b13, b14, g30, g37) ⟨hv30, hv37⟩ (Fr.Sub.cons rfl (Fr.Sub.cons rfl (Fr.Sub.nil _))) (Fr.Sub.cons rfl (Fr.Sub.cons rfl (Fr.Sub.cons rfl (Fr.Sub.cons rfl (Fr.Sub.cons rfl (Fr.Sub.cons rfl (Fr.Sub.nil _))))))) (HSub.pick 2 rfl (HSub.pick 3 rfl (HSub.pick 2 rfl (HSub.pick 0 rfl (HSub.pick 2 rfl (HSub.pick 2 rfl (HSub.nil _)))))))
            ·
              refine StepM.grows rfl rfl rfl rfl (Grows.empty rfl Tryz.underlying22 Tryz.sizeOf62 Tryz.zeroValue62) (fun b34 _ => ?_)
              refine RunM.pick [3, 14] (by kernel_rfl) rfl rfl (fun i hi => ?_)
              simp only [List.mem_cons, List.not_mem_nil, or_false] at hi
              rcases hi with rfl | rfl
              ·
                refine StepM.grows rfl rfl rfl rfl (z_app rfl rfl hda hal rfl rfl rfl rfl rfl (i := 2) rfl) (fun g30 hv30 => ?_)
                refine RunM.pure (i := 6) rfl rfl rfl rfl (fun _ => Still.build_1_1 (fun x0_0 x1_0 => .agg #[x0_0, x1_0]) rfl rfl rfl (fun _ => by kernel_rfl)) (by kernel_rfl) (by kernel_rfl) rfl ?_
                refine RunM.pick [10, 14] (by kernel_rfl) rfl rfl (fun i hi => ?_)
                simp only [List.mem_cons, List.not_mem_nil, or_false] at hi
                rcases hi with rfl | rfl
                ·
                  refine StepM.grows rfl rfl rfl rfl (z_app rfl rfl hdb hbl rfl rfl rfl rfl rfl (i := 1) rfl) (fun g37 hv37 => ?_)
                  refine RunM.pure (i := 13) rfl rfl rfl rfl (fun _ => Still.build_1_1 (fun x0_0 x1_0 => .agg #[x0_0, x1_0]) rfl rfl rfl (fun _ => by kernel_rfl)) (by kernel_rfl) (by kernel_rfl) rfl ?_
                  refine RunM.pick [14] (by kernel_rfl) rfl rfl (fun i hi => ?_)
                  obtain rfl : i = 14 := by simpa using hi
                  refine StepM.alloc rfl rfl rfl rfl rfl Tryz.zeroValue24 (fun b13 => ?_)
                  refine RunM.pick [16] (by kernel_rfl) rfl rfl (fun i hi => ?_)
                  obtain rfl : i = 16 := by simpa using hi
                  refine StepM.store rfl rfl rfl rfl rfl rfl (m := 0) rfl Tryz.sizeOf24 rfl rfl rfl (by simp) ?_
                  refine RunM.done (by kernel_rfl) ?_
                  show RunL _ _ _ [_] _ _
                  refine RunL.does0 rfl rfl (Does.store rfl rfl rfl (i := 4) rfl Tryz.sizeOf24 rfl (rfl) rfl) (fun _ _ => ?_)
                  refine RunL.nil ?_
                  exact Ends.meetG (b13, b14, g30, g37) ⟨hv30, hv37⟩ (Fr.Sub.cons rfl (Fr.Sub.cons rfl (Fr.Sub.nil _))) (Fr.Sub.cons rfl (Fr.Sub.cons rfl (Fr.Sub.cons rfl (Fr.Sub.cons rfl (Fr.Sub.cons rfl (Fr.Sub.cons rfl (Fr.Sub.nil _))))))) (HSub.pick 0 rfl (HSub.pick 3 rfl (HSub.pick 1 rfl (HSub.pick 0 rfl (HSub.pick 2 rfl (HSub.pick 2 rfl (HSub.nil _)))))))
                ·
                  refine StepM.alloc rfl rfl rfl rfl rfl Tryz.zeroValue24 (fun b13 => ?_)
                  refine RunM.pick [10] (by kernel_rfl) rfl rfl (fun i hi => ?_)
                  obtain rfl : i = 10 := by simpa using hi
                  refine StepM.grows rfl rfl rfl rfl (z_app rfl rfl hdb hbl rfl rfl rfl rfl rfl (i := 2) rfl) (fun g37 hv37 => ?_)
                  refine RunM.pure (i := 13) rfl rfl rfl rfl (fun _ => Still.build_1_1 (fun x0_0 x1_0 => .agg #[x0_0, x1_0]) rfl rfl rfl (fun _ => by kernel_rfl)) (by kernel_rfl) (by kernel_rfl) rfl ?_
                  refine RunM.pick [16] (by kernel_rfl) rfl rfl (fun i hi => ?_)
                  obtain rfl : i = 16 := by simpa using hi
                  refine StepM.store rfl rfl rfl rfl rfl rfl (m := 1) rfl Tryz.sizeOf24 rfl rfl rfl (by simp) ?_
                  refine RunM.done (by kernel_rfl) ?_
                  show RunL _ _ _ [_] _ _
                  refine RunL.does0 rfl rfl (Does.store rfl rfl rfl (i := 4) rfl Tryz.sizeOf24 rfl (rfl) rfl) (fun _ _ => ?_)
                  refine RunL.nil ?_
                  exact Ends.meetG (b13, b14, g30, g37) ⟨hv30, hv37⟩ (Fr.Sub.cons rfl (Fr.Sub.cons rfl (Fr.Sub.nil _))) (Fr.Sub.cons rfl (Fr.Sub.cons rfl (Fr.Sub.cons rfl (Fr.Sub.cons rfl (Fr.Sub.cons rfl (Fr.Sub.cons rfl (Fr.Sub.nil _))))))) (HSub.pick 1 rfl (HSub.pick 3 rfl (HSub.pick 1 rfl (HSub.pick 0 rfl (HSub.pick 2 rfl (HSub.pick 2 rfl (HSub.nil _)))))))
              ·
                refine StepM.alloc rfl rfl rfl rfl rfl Tryz.zeroValue24 (fun b13 => ?_)
                refine RunM.pick [3] (by kernel_rfl) rfl rfl (fun i hi => ?_)
                obtain rfl : i = 3 := by simpa using hi
                refine StepM.grows rfl rfl rfl rfl (z_app rfl rfl hda hal rfl rfl rfl rfl rfl (i := 3) rfl) (fun g30 hv30 => ?_)
                refine RunM.pure (i := 6) rfl rfl rfl rfl (fun _ => Still.build_1_1 (fun x0_0 x1_0 => .agg #[x0_0, x1_0]) rfl rfl rfl (fun _ => by kernel_rfl)) (by kernel_rfl) (by kernel_rfl) rfl ?_
                refine RunM.pick [10] (by kernel_rfl) rfl rfl (fun i hi => ?_)
                obtain rfl : i = 10 := by simpa using hi
                refine StepM.grows rfl rfl rfl rfl (z_app rfl rfl hdb hbl rfl rfl rfl rfl rfl (i := 2) rfl) (fun g37 hv37 => ?_)
                refine RunM.pure (i := 13) rfl rfl rfl rfl (fun _ => Still.build_1_1 (fun x0_0 x1_0 => .agg #[x0_0, x1_0]) rfl rfl rfl (fun _ => by kernel_rfl)) (by kernel_rfl) (by kernel_rfl) rfl ?_
                refine RunM.pick [16] (by kernel_rfl) rfl rfl (fun i hi => ?_)
                obtain rfl : i = 16 := by simpa using hi
                refine StepM.store rfl rfl rfl rfl rfl rfl (m := 2) rfl Tryz.sizeOf24 rfl rfl rfl (by simp) ?_
                refine RunM.done (by kernel_rfl) ?_
                show RunL _ _ _ [_] _ _
                refine RunL.does0 rfl rfl (Does.store rfl rfl rfl (i := 4) rfl Tryz.sizeOf24 rfl (rfl) rfl) (fun _ _ => ?_)
                refine RunL.nil ?_
                exact Ends.meetG (b13, b14, g30, g37) ⟨hv30, hv37⟩ (Fr.Sub.cons rfl (Fr.Sub.cons rfl (Fr.Sub.nil _))) (Fr.Sub.cons rfl (Fr.Sub.cons rfl (Fr.Sub.cons rfl (Fr.Sub.cons rfl (Fr.Sub.cons rfl (Fr.Sub.cons rfl (Fr.Sub.nil _))))))) (HSub.pick 2 rfl (HSub.pick 3 rfl (HSub.pick 1 rfl (HSub.pick 0 rfl (HSub.pick 2 rfl (HSub.pick 2 rfl (HSub.nil _)))))))
            ·
              refine StepM.alloc rfl rfl rfl rfl rfl Tryz.zeroValue24 (fun b13 => ?_)
              refine RunM.pick [3, 7] (by kernel_rfl) rfl rfl (fun i hi => ?_)
              simp only [List.mem_cons, List.not_mem_nil, or_false] at hi
              rcases hi with rfl | rfl
              ·
                refine StepM.grows rfl rfl rfl rfl (z_app rfl rfl hda hal rfl rfl rfl rfl rfl (i := 2) rfl) (fun g30 hv30 => ?_)
                refine RunM.pure (i := 6) rfl rfl rfl rfl (fun _ => Still.build_1_1 (fun x0_0 x1_0 => .agg #[x0_0, x1_0]) rfl rfl rfl (fun _ => by kernel_rfl)) (by kernel_rfl) (by kernel_rfl) rfl ?_
                refine RunM.pick [7] (by kernel_rfl) rfl rfl (fun i hi => ?_)
                obtain rfl : i = 7 := by simpa using hi
                refine StepM.grows rfl rfl rfl rfl (Grows.empty rfl Tryz.underlying22 Tryz.sizeOf62 Tryz.zeroValue62) (fun b34 _ => ?_)
                refine RunM.pick [10] (by kernel_rfl) rfl rfl (fun i hi => ?_)
                obtain rfl : i = 10 := by simpa using hi
                refine StepM.grows rfl rfl rfl rfl (z_app rfl rfl hdb hbl rfl rfl rfl rfl rfl (i := 0) rfl) (fun g37 hv37 => ?_)
                refine RunM.pure (i := 13) rfl rfl rfl rfl (fun _ => Still.build_1_1 (fun x0_0 x1_0 => .agg #[x0_0, x1_0]) rfl rfl rfl (fun _ => by kernel_rfl)) (by kernel_rfl) (by kernel_rfl) rfl ?_
                refine RunM.pick [16] (by kernel_rfl) rfl rfl (fun i hi => ?_)
                obtain rfl : i = 16 := by simpa using hi
                refine StepM.store rfl rfl rfl rfl rfl rfl (m := 3) rfl Tryz.sizeOf24 rfl rfl rfl (by simp) ?_
                refine RunM.done (by kernel_rfl) ?_
                show RunL _ _ _ [_] _ _
                refine RunL.does0 rfl rfl (Does.store rfl rfl rfl (i := 4) rfl Tryz.sizeOf24 rfl (rfl) rfl) (fun _ _ => ?_)
                refine RunL.nil ?_
                exact Ends.meetG (b13, b14, g30, g37) ⟨hv30, hv37⟩ (Fr.Sub.cons rfl (Fr.Sub.cons rfl (Fr.Sub.nil _))) (Fr.Sub.cons rfl (Fr.Sub.cons rfl (Fr.Sub.cons rfl (Fr.Sub.cons rfl (Fr.Sub.cons rfl (Fr.Sub.cons rfl (Fr.Sub.nil _))))))) (HSub.pick 3 rfl (HSub.pick 3 rfl (HSub.pick 2 rfl (HSub.pick 0 rfl (HSub.pick 2 rfl (HSub.pick 2 rfl (HSub.nil _)))))))
              ·
                refine StepM.grows rfl rfl rfl rfl (Grows.empty rfl Tryz.underlying22 Tryz.sizeOf62 Tryz.zeroValue62) (fun b34 _ => ?_)
                refine RunM.pick [3] (by kernel_rfl) rfl rfl (fun i hi => ?_)
                obtain rfl : i = 3 := by simpa using hi
                refine StepM.grows rfl rfl rfl rfl (z_app rfl rfl hda hal rfl rfl rfl rfl rfl (i := 3) rfl) (fun g30 hv30 => ?_)
                refine RunM.pure (i := 6) rfl rfl rfl rfl (fun _ => Still.build_1_1 (fun x0_0 x1_0 => .agg #[x0_0, x1_0]) rfl rfl rfl (fun _ => by kernel_rfl)) (by kernel_rfl) (by kernel_rfl) rfl ?_
                refine RunM.pick [10] (by kernel_rfl) rfl rfl (fun i hi => ?_)
                obtain rfl : i = 10 := by simpa using hi
                refine StepM.grows rfl rfl rfl rfl (z_app rfl rfl hdb hbl rfl rfl rfl rfl rfl (i := 1) rfl) (fun g37 hv37 => ?_)
                refine RunM.pure (i := 13) rfl rfl rfl rfl (fun _ => Still.build_1_1 (fun x0_0 x1_0 => .agg #[x0_0, x1_0]) rfl rfl rfl (fun _ => by kernel_rfl)) (by kernel_rfl) (by kernel_rfl) rfl ?_
                refine RunM.pick [16] (by kernel_rfl) rfl rfl (fun i hi => ?_)
                obtain rfl : i = 16 := by simpa using hi
                refine StepM.store rfl rfl rfl rfl rfl rfl (m := 3) rfl Tryz.sizeOf24 rfl rfl rfl (by simp) ?_
                refine RunM.done (by kernel_rfl) ?_
                show RunL _ _ _ [_] _ _
                refine RunL.does0 rfl rfl (Does.store rfl rfl rfl (i := 4) rfl Tryz.sizeOf24 rfl (rfl) rfl) (fun _ _ => ?_)
                refine RunL.nil ?_
                exact Ends.meetG (b13, b14, g30, g37) ⟨hv30, hv37⟩ (Fr.Sub.cons rfl (Fr.Sub.cons rfl (Fr.Sub.nil _))) (Fr.Sub.cons rfl (Fr.Sub.cons rfl (Fr.Sub.cons rfl (Fr.Sub.cons rfl (Fr.Sub.cons rfl (Fr.Sub.cons rfl (Fr.Sub.nil _))))))) (HSub.pick 3 rfl (HSub.pick 3 rfl (HSub.pick 1 rfl (HSub.pick 0 rfl (HSub.pick 2 rfl (HSub.pick 2 rfl (HSub.nil _)))))))
        ·
          refine StepM.grows rfl rfl rfl rfl (Grows.empty rfl Tryz.underlying22 Tryz.sizeOf62 Tryz.zeroValue62) (fun b34 _ => ?_)
          refine RunM.pick [0, 14, 15] (by kernel_rfl) rfl rfl (fun i hi => ?_)
          simp only [List.mem_cons, List.not_mem_nil, or_false] at hi
          rcases hi with rfl | rfl | rfl
          ·
            refine StepM.grows rfl rfl rfl rfl (Grows.empty rfl Tryz.underlying22 Tryz.sizeOf62 Tryz.zeroValue62) (fun b27 _ => ?_)
            refine RunM.pick [3, 14, 15] (by kernel_rfl) rfl rfl (fun i hi => ?_)
            simp only [List.mem_cons, List.not_mem_nil, or_false] at hi
            rcases hi with rfl | rfl | rfl
            ·
              refine StepM.grows rfl rfl rfl rfl (z_app rfl rfl hda hal rfl rfl rfl rfl rfl (i := 0) rfl) (fun g30 hv30 => ?_)
              refine RunM.pure (i := 6) rfl rfl rfl rfl (fun _ => Still.build_1_1 (fun x0_0 x1_0 => .agg #[x0_0, x1_0]) rfl rfl rfl (fun _ => by kernel_rfl)) (by kernel_rfl) (by kernel_rfl) rfl ?_
              refine RunM.pick [10, 14, 15] (by kernel_rfl) rfl rfl (fun i hi => ?_)
              simp only [List.mem_cons, List.not_mem_nil, or_false] at hi
              rcases hi with rfl | rfl | rfl
              ·
                refine StepM.grows rfl rfl rfl rfl (z_app rfl rfl hdb hbl rfl rfl rfl rfl rfl (i := 2) rfl) (fun g37 hv37 => ?_)
                refine RunM.pure (i := 13) rfl rfl rfl rfl (fun _ => Still.build_1_1 (fun x0_0 x1_0 => .agg #[x0_0, x1_0]) rfl rfl rfl (fun _ => by kernel_rfl)) (by kernel_rfl) (by kernel_rfl) rfl ?_
                refine RunM.pick [14, 15] (by kernel_rfl) rfl rfl (fun i hi => ?_)
                simp only [List.mem_cons, List.not_mem_nil, or_false] at hi
                rcases hi with rfl | rfl
                ·
                  refine StepM.alloc rfl rfl rfl rfl rfl Tryz.zeroValue24 (fun b13 => ?_)
                  refine RunM.pick [15] (by kernel_rfl) rfl rfl (fun i hi => ?_)
                  obtain rfl : i = 15 := by simpa using hi
                  refine StepM.alloc rfl rfl rfl rfl rfl Tryz.zeroValue24 (fun b14 => ?_)
                  refine RunM.pick [16] (by kernel_rfl) rfl rfl (fun i hi => ?_)
                  obtain rfl : i = 16 := by simpa using hi
                  refine StepM.store rfl rfl rfl rfl rfl rfl (m := 1) rfl Tryz.sizeOf24 rfl rfl rfl (by simp) ?_
                  refine RunM.done (by kernel_rfl) ?_
                  show RunL _ _ _ [_] _ _
                  refine RunL.does0 rfl rfl (Does.store rfl rfl rfl (i := 0) rfl Tryz.sizeOf24 rfl (rfl) rfl) (fun _ _ => ?_)
                  refine RunL.nil ?_
                  exact Ends.meetG (b13, b14, g30, g37) ⟨hv30, hv37⟩ (Fr.Sub.cons rfl (Fr.Sub.cons rfl (Fr.Sub.nil _))) (Fr.Sub.cons rfl (Fr.Sub.cons rfl (Fr.Sub.cons rfl (Fr.Sub.cons rfl (Fr.Sub.cons rfl (Fr.Sub.cons rfl (Fr.Sub.nil _))))))) (HSub.pick 1 rfl (HSub.pick 0 rfl (HSub.pick 1 rfl (HSub.pick 0 rfl (HSub.pick 2 rfl (HSub.pick 2 rfl (HSub.nil _)))))))
                ·
                  refine StepM.alloc rfl rfl rfl rfl rfl Tryz.zeroValue24 (fun b14 => ?_)
                  refine RunM.pick [14] (by kernel_rfl) rfl rfl (fun i hi => ?_)
                  obtain rfl : i = 14 := by simpa using hi
                  refine StepM.alloc rfl rfl rfl rfl rfl Tryz.zeroValue24 (fun b13 => ?_)
                  refine RunM.pick [16] (by kernel_rfl) rfl rfl (fun i hi => ?_)
                  obtain rfl : i = 16 := by simpa using hi
                  refine StepM.store rfl rfl rfl rfl rfl rfl (m := 0) rfl Tryz.sizeOf24 rfl rfl rfl (by simp) ?_
                  refine RunM.done (by kernel_rfl) ?_
                  show RunL _ _ _ [_] _ _
                  refine RunL.does0 rfl rfl (Does.store rfl rfl rfl (i := 1) rfl Tryz.sizeOf24 rfl (rfl) rfl) (fun _ _ => ?_)
                  refine RunL.nil ?_
                  exact Ends.meetG (b13, b14, g30, g37) ⟨hv30, hv37⟩ (Fr.Sub.cons rfl (Fr.Sub.cons rfl (Fr.Sub.nil _))) (Fr.Sub.cons rfl (Fr.Sub.cons rfl (Fr.Sub.cons rfl (Fr.Sub.cons rfl (Fr.Sub.cons rfl (Fr.Sub.cons rfl (Fr.Sub.nil _))))))) (HSub.pick 0 rfl (HSub.pick 0 rfl (HSub.pick 1 rfl (HSub.pick 0 rfl (HSub.pick 2 rfl (HSub.pick 2 rfl (HSub.nil _)))))))
              ·
                refine StepM.alloc rfl rfl rfl rfl rfl Tryz.zeroValue24 (fun b13 => ?_)
                refine RunM.pick [10, 15] (by kernel_rfl) rfl rfl (fun i hi => ?_)
                simp only [List.mem_cons, List.not_mem_nil, or_false] at hi
                rcases hi with rfl | rfl
                ·
                  refine StepM.grows rfl rfl rfl rfl (z_app rfl rfl hdb hbl rfl rfl rfl rfl rfl (i := 3) rfl) (fun g37 hv37 => ?_)
                  refine RunM.pure (i := 13) rfl rfl rfl rfl (fun _ => Still.build_1_1 (fun x0_0 x1_0 => .agg #[x0_0, x1_0]) rfl rfl rfl (fun _ => by kernel_rfl)) (by kernel_rfl) (by kernel_rfl) rfl ?_
                  refine RunM.pick [15] (by kernel_rfl) rfl rfl (fun i hi => ?_)
                  obtain rfl : i = 15 := by simpa using hi
                  refine StepM.alloc rfl rfl rfl rfl rfl Tryz.zeroValue24 (fun b14 => ?_)
                  refine RunM.pick [16] (by kernel_rfl) rfl rfl (fun i hi => ?_)
                  obtain rfl : i = 16 := by simpa using hi
                  refine StepM.store rfl rfl rfl rfl rfl rfl (m := 2) rfl Tryz.sizeOf24 rfl rfl rfl (by simp) ?_
                  refine RunM.done (by kernel_rfl) ?_
                  show RunL _ _ _ [_] _ _
                  refine RunL.does0 rfl rfl (Does.store rfl rfl rfl (i := 0) rfl Tryz.sizeOf24 rfl (rfl) rfl) (fun _ _ => ?_)
                  refine RunL.nil ?_
                  exact Ends.meetG (b13, b14, g30, g37) ⟨hv30, hv37⟩ (Fr.Sub.cons rfl (Fr.Sub.cons rfl (Fr.Sub.nil _))) (Fr.Sub.cons rfl (Fr.Sub.cons rfl (Fr.Sub.cons rfl (Fr.Sub.cons rfl (Fr.Sub.cons rfl (Fr.Sub.cons rfl (Fr.Sub.nil _))))))) (HSub.pick 2 rfl (HSub.pick 0 rfl (HSub.pick 1 rfl (HSub.pick 0 rfl (HSub.pick 2 rfl (HSub.pick 2 rfl (HSub.nil _)))))))
                ·
                  refine StepM.alloc rfl rfl rfl rfl rfl Tryz.zeroValue24 (fun b14 => ?_)
                  refine RunM.pick [10] (by kernel_rfl) rfl rfl (fun i hi => ?_)
                  obtain rfl : i = 10 := by simpa using hi
                  refine StepM.grows rfl rfl rfl rfl (z_app rfl rfl hdb hbl rfl rfl rfl rfl rfl (i := 4) rfl) (fun g37 hv37 => ?_)
                  refine RunM.pure (i := 13) rfl rfl rfl rfl (fun _ => Still.build_1_1 (fun x0_0 x1_0 => .agg #[x0_0, x1_0]) rfl rfl rfl (fun _ => by kernel_rfl)) (by kernel_rfl) (by kernel_rfl) rfl ?_
                  refine RunM.pick [16] (by kernel_rfl) rfl rfl (fun i hi => ?_)
                  obtain rfl : i = 16 := by simpa using hi
                  refine StepM.store rfl rfl rfl rfl rfl rfl (m := 2) rfl Tryz.sizeOf24 rfl rfl rfl (by simp) ?_
                  refine RunM.done (by kernel_rfl) ?_
                  show RunL _ _ _ [_] _ _
                  refine RunL.does0 rfl rfl (Does.store rfl rfl rfl (i := 1) rfl Tryz.sizeOf24 rfl (rfl) rfl) (fun _ _ => ?_)
                  refine RunL.nil ?_
                  exact Ends.meetG (b13, b14, g30, g37) ⟨hv30, hv37⟩ (Fr.Sub.cons rfl (Fr.Sub.cons rfl (Fr.Sub.nil _))) (Fr.Sub.cons rfl (Fr.Sub.cons rfl (Fr.Sub.cons rfl (Fr.Sub.cons rfl (Fr.Sub.cons rfl (Fr.Sub.cons rfl (Fr.Sub.nil _))))))) (HSub.pick 2 rfl (HSub.pick 1 rfl (HSub.pick 1 rfl (HSub.pick 0 rfl (HSub.pick 2 rfl (HSub.pick 2 rfl (HSub.nil _)))))))
              ·
                refine StepM.alloc rfl rfl rfl rfl rfl Tryz.zeroValue24 (fun b14 => ?_)
                refine RunM.pick [10, 14] (by kernel_rfl) rfl rfl (fun i hi => ?_)
                simp only [List.mem_cons, List.not_mem_nil, or_false] at hi
                rcases hi with rfl | rfl
                ·
                  refine StepM.grows rfl rfl rfl rfl (z_app rfl rfl hdb hbl rfl rfl rfl rfl rfl (i := 3) rfl) (fun g37 hv37 => ?_)
                  refine RunM.pure (i := 13) rfl rfl rfl rfl (fun _ => Still.build_1_1 (fun x0_0 x1_0 => .agg #[x0_0, x1_0]) rfl rfl rfl (fun _ => by kernel_rfl)) (by kernel_rfl) (by kernel_rfl) rfl ?_
                  refine RunM.pick [14] (by kernel_rfl) rfl rfl (fun i hi => ?_)
                  obtain rfl : i = 14 := by simpa using hi
                  refine StepM.alloc rfl rfl rfl rfl rfl Tryz.zeroValue24 (fun b13 => ?_)
                  refine RunM.pick [16] (by kernel_rfl) rfl rfl (fun i hi => ?_)
                  obtain rfl : i = 16 := by simpa using hi
                  refine StepM.store rfl rfl rfl rfl rfl rfl (m := 0) rfl Tryz.sizeOf24 rfl rfl rfl (by simp) ?_
                  refine RunM.done (by kernel_rfl) ?_
                  show RunL _ _ _ [_] _ _
                  refine RunL.does0 rfl rfl (Does.store rfl rfl rfl (i := 2) rfl Tryz.sizeOf24 rfl (rfl) rfl) (fun _ _ => ?_)
                  refine RunL.nil ?_
                  exact Ends.meetG (b13, b14, g30, g37) ⟨hv30, hv37⟩ (Fr.Sub.cons rfl (Fr.Sub.cons rfl (Fr.Sub.nil _))) (Fr.Sub.cons rfl (Fr.Sub.cons rfl (Fr.Sub.cons rfl (Fr.Sub.cons rfl (Fr.Sub.cons rfl (Fr.Sub.cons rfl (Fr.Sub.nil _))))))) (HSub.pick 0 rfl (HSub.pick 1 rfl (HSub.pick 1 rfl (HSub.pick 0 rfl (HSub.pick 2 rfl (HSub.pick 2 rfl (HSub.nil _)))))))
                ·
                  refine StepM.alloc rfl rfl rfl rfl rfl Tryz.zeroValue24 (fun b13 => ?_)
                  refine RunM.pick [10] (by kernel_rfl) rfl rfl (fun i hi => ?_)
                  obtain rfl : i = 10 := by simpa using hi
                  refine StepM.grows rfl rfl rfl rfl (z_app rfl rfl hdb hbl rfl rfl rfl rfl rfl (i := 4) rfl) (fun g37 hv37 => ?_)
                  refine RunM.pure (i := 13) rfl rfl rfl rfl (fun _ => Still.build_1_1 (fun x0_0 x1_0 => .agg #[x0_0, x1_0]) rfl rfl rfl (fun _ => by kernel_rfl)) (by kernel_rfl) (by kernel_rfl) rfl ?_
                  refine RunM.pick [16] (by kernel_rfl) rfl rfl (fun i hi => ?_)
                  obtain rfl : i = 16 := by simpa using hi
                  refine StepM.store rfl rfl rfl rfl rfl rfl (m := 1) rfl Tryz.sizeOf24 rfl rfl rfl (by simp) ?_
                  refine RunM.done (by kernel_rfl) ?_
                  show RunL _ _ _ [_] _ _
                  refine RunL.does0 rfl rfl (Does.store rfl rfl rfl (i := 2) rfl Tryz.sizeOf24 rfl (rfl) rfl) (fun _ _ => ?_)
                  refine RunL.nil ?_
                  exact Ends.meetG (b13, b14, g30, g37) ⟨hv30, hv37⟩ (Fr.Sub.cons rfl (Fr.Sub.cons rfl (Fr.Sub.nil _))) (Fr.Sub.cons rfl (Fr.Sub.cons rfl (Fr.Sub.cons rfl (Fr.Sub.cons rfl (Fr.Sub.cons rfl (Fr.Sub.cons rfl (Fr.Sub.nil _))))))) (HSub.pick 1 rfl (HSub.pick 1 rfl (HSub.pick 1 rfl (HSub.pick 0 rfl (HSub.pick 2 rfl (HSub.pick 2 rfl (HSub.nil _)))))))
            ·
              refine StepM.alloc rfl rfl rfl rfl rfl Tryz.zeroValue24 (fun b13 => ?_)
              refine RunM.pick [3, 15] (by kernel_rfl) rfl rfl (fun i hi => ?_)
              simp only [List.mem_cons, List.not_mem_nil, or_false] at hi
              rcases hi with rfl | rfl
              ·
                refine StepM.grows rfl rfl rfl rfl (z_app rfl rfl hda hal rfl rfl rfl rfl rfl (i := 1) rfl) (fun g30 hv30 => ?_)
                refine RunM.pure (i := 6) rfl rfl rfl rfl (fun _ => Still.build_1_1 (fun x0_0 x1_0 => .agg #[x0_0, x1_0]) rfl rfl rfl (fun _ => by kernel_rfl)) (by kernel_rfl) (by kernel_rfl) rfl ?_
                refine RunM.pick [10, 15] (by kernel_rfl) rfl rfl (fun i hi => ?_)
                simp only [List.mem_cons, List.not_mem_nil, or_false] at hi
                rcases hi with rfl | rfl
                ·
                  refine StepM.grows rfl rfl rfl rfl (z_app rfl rfl hdb hbl rfl rfl rfl rfl rfl (i := 3) rfl) (fun g37 hv37 => ?_)
                  refine RunM.pure (i := 13) rfl rfl rfl rfl (fun _ => Still.build_1_1 (fun x0_0 x1_0 => .agg #[x0_0, x1_0]) rfl rfl rfl (fun _ => by kernel_rfl)) (by kernel_rfl) (by kernel_rfl) rfl ?_
                  refine RunM.pick [15] (by kernel_rfl) rfl rfl (fun i hi => ?_)
                  obtain rfl : i = 15 := by simpa using hi
                  refine StepM.alloc rfl rfl rfl rfl rfl Tryz.zeroValue24 (fun b14 => ?_)
                  refine RunM.pick [16] (by kernel_rfl) rfl rfl (fun i hi => ?_)
                  obtain rfl : i = 16 := by simpa using hi
                  refine StepM.store rfl rfl rfl rfl rfl rfl (m := 3) rfl Tryz.sizeOf24 rfl rfl rfl (by simp) ?_
                  refine RunM.done (by kernel_rfl) ?_
                  show RunL _ _ _ [_] _ _
                  refine RunL.does0 rfl rfl (Does.store rfl rfl rfl (i := 0) rfl Tryz.sizeOf24 rfl (rfl) rfl) (fun _ _ => ?_)
                  refine RunL.nil ?_
                  exact Ends.meetG (b13, b14, g30, g37) ⟨hv30, hv37⟩ (Fr.Sub.cons rfl (Fr.Sub.cons rfl (Fr.Sub.nil _))) (Fr.Sub.cons rfl (Fr.Sub.cons rfl (Fr.Sub.cons rfl (Fr.Sub.cons rfl (Fr.Sub.cons rfl (Fr.Sub.cons rfl (Fr.Sub.nil _))))))) (HSub.pick 3 rfl (HSub.pick 0 rfl (HSub.pick 1 rfl (HSub.pick 0 rfl (HSub.pick 2 rfl (HSub.pick 2 rfl (HSub.nil _)))))))
                ·
                  refine StepM.alloc rfl rfl rfl rfl rfl Tryz.zeroValue24 (fun b14 => ?_)
                  refine RunM.pick [10] (by kernel_rfl) rfl rfl (fun i hi => ?_)
                  obtain rfl : i = 10 := by simpa using hi
                  refine StepM.grows rfl rfl rfl rfl (z_app rfl rfl hdb hbl rfl rfl rfl rfl rfl (i := 4) rfl) (fun g37 hv37 => ?_)
                  refine RunM.pure (i := 13) rfl rfl rfl rfl (fun _ => Still.build_1_1 (fun x0_0 x1_0 => .agg #[x0_0, x1_0]) rfl rfl rfl (fun _ => by kernel_rfl)) (by kernel_rfl) (by kernel_rfl) rfl ?_
                  refine RunM.pick [16] (by kernel_rfl) rfl rfl (fun i hi => ?_)
                  obtain rfl : i = 16 := by simpa using hi
                  refine StepM.store rfl rfl rfl rfl rfl rfl (m := 3) rfl Tryz.sizeOf24 rfl rfl rfl (by simp) ?_
                  refine RunM.done (by kernel_rfl) ?_
                  show RunL _ _ _ [_] _ _
                  refine RunL.does0 rfl rfl (Does.store rfl rfl rfl (i := 1) rfl Tryz.sizeOf24 rfl (rfl) rfl) (fun _ _ => ?_)
                  refine RunL.nil ?_
                  exact Ends.meetG (b13, b14, g30, g37) ⟨hv30, hv37⟩ (Fr.Sub.cons rfl (Fr.Sub.cons rfl (Fr.Sub.nil _))) (Fr.Sub.cons rfl (Fr.Sub.cons rfl (Fr.Sub.cons rfl (Fr.Sub.cons rfl (Fr.Sub.cons rfl (Fr.Sub.cons rfl (Fr.Sub.nil _))))))) (HSub.pick 3 rfl (HSub.pick 1 rfl (HSub.pick 1 rfl (HSub.pick 0 rfl (HSub.pick 2 rfl (HSub.pick 2 rfl (HSub.nil _)))))))
              ·
                refine StepM.alloc rfl rfl rfl rfl rfl Tryz.zeroValue24 (fun b14 => ?_)
                refine RunM.pick [3] (by kernel_rfl) rfl rfl (fun i hi => ?_)
                obtain rfl : i = 3 := by simpa using hi
                refine StepM.grows rfl rfl rfl rfl (z_app rfl rfl hda hal rfl rfl rfl rfl rfl (i := 2) rfl) (fun g30 hv30 => ?_)
                refine RunM.pure (i := 6) rfl rfl rfl rfl (fun _ => Still.build_1_1 (fun x0_0 x1_0 => .agg #[x0_0, x1_0]) rfl rfl rfl (fun _ => by kernel_rfl)) (by kernel_rfl) (by kernel_rfl) rfl ?_
                refine RunM.pick [10] (by kernel_rfl) rfl rfl (fun i hi => ?_)
                obtain rfl : i = 10 := by simpa using hi
                refine StepM.grows rfl rfl rfl rfl (z_app rfl rfl hdb hbl rfl rfl rfl rfl rfl (i := 4) rfl) (fun g37 hv37 => ?_)
                refine RunM.pure (i := 13) rfl rfl rfl rfl (fun _ => Still.build_1_1 (fun x0_0 x1_0 => .agg #[x0_0, x1_0]) rfl rfl rfl (fun _ => by kernel_rfl)) (by kernel_rfl) (by kernel_rfl) rfl ?_
                refine RunM.pick [16] (by kernel_rfl) rfl rfl (fun i hi => ?_)
                obtain rfl : i = 16 := by simpa using hi
                refine StepM.store rfl rfl rfl rfl rfl rfl (m := 3) rfl Tryz.sizeOf24 rfl rfl rfl (by simp) ?_
                refine RunM.done (by kernel_rfl) ?_
                show RunL _ _ _ [_] _ _
                refine RunL.does0 rfl rfl (Does.store rfl rfl rfl (i := 2) rfl Tryz.sizeOf24 rfl (rfl) rfl) (fun _ _ => ?_)
                refine RunL.nil ?_
                exact Ends.meetG (b13, b14, g30, g37) ⟨hv30, hv37⟩ (Fr.Sub.cons rfl (Fr.Sub.cons rfl (Fr.Sub.nil _))) (Fr.Sub.cons rfl (Fr.Sub.cons rfl (Fr.Sub.cons rfl (Fr.Sub.cons rfl (Fr.Sub.cons rfl (Fr.Sub.cons rfl (Fr.Sub.nil _))))))) (HSub.pick 3 rfl (HSub.pick 2 rfl (HSub.pick 1 rfl (HSub.pick 0 rfl (HSub.pick 2 rfl (HSub.pick 2 rfl (HSub.nil _)))))))
            ·
              refine StepM.alloc rfl rfl rfl rfl rfl Tryz.zeroValue24 (fun b14 => ?_)
              refine RunM.pick [3, 14] (by kernel_rfl) rfl rfl (fun i hi => ?_)
              simp only [List.mem_cons, List.not_mem_nil, or_false] at hi
              rcases hi with rfl | rfl
              ·
                refine StepM.grows rfl rfl rfl rfl (z_app rfl rfl hda hal rfl rfl rfl rfl rfl (i := 1) rfl) (fun g30 hv30 => ?_)
                refine RunM.pure (i := 6) rfl rfl rfl rfl (fun _ => Still.build_1_1 (fun x0_0 x1_0 => .agg #[x0_0, x1_0]) rfl rfl rfl (fun _ => by kernel_rfl)) (by kernel_rfl) (by kernel_rfl) rfl ?_
                refine RunM.pick [10, 14] (by kernel_rfl) rfl rfl (fun i hi => ?_)
                simp only [List.mem_cons, List.not_mem_nil, or_false] at hi
                rcases hi with rfl | rfl
                ·
                  refine StepM.grows rfl rfl rfl rfl (z_app rfl rfl hdb hbl rfl rfl rfl rfl rfl (i := 3) rfl) (fun g37 hv37 => ?_)
                  refine RunM.pure (i := 13) rfl rfl rfl rfl (fun _ => Still.build_1_1 (fun x0_0 x1_0 => .agg #[x0_0, x1_0]) rfl rfl rfl (fun _ => by kernel_rfl)) (by kernel_rfl) (by kernel_rfl) rfl ?_
                  refine RunM.pick [14] (by kernel_rfl) rfl rfl (fun i hi => ?_)
                  obtain rfl : i = 14 := by simpa using hi
                  refine StepM.alloc rfl rfl rfl rfl rfl Tryz.zeroValue24 (fun b13 => ?_)
                  refine RunM.pick [16] (by kernel_rfl) rfl rfl (fun i hi => ?_)
                  obtain rfl : i = 16 := by simpa using hi
                  refine StepM.store rfl rfl rfl rfl rfl rfl (m := 0) rfl Tryz.sizeOf24 rfl rfl rfl (by simp) ?_
                  refine RunM.done (by kernel_rfl) ?_
                  show RunL _ _ _ [_] _ _
                  refine RunL.does0 rfl rfl (Does.store rfl rfl rfl (i := 3) rfl Tryz.sizeOf24 rfl (rfl) rfl) (fun _ _ => ?_)
                  refine RunL.nil ?_
                  exact Ends.meetG (b13, b14, g30, g37) ⟨hv30, hv37⟩ (Fr.Sub.cons rfl (Fr.Sub.cons rfl (Fr.Sub.nil _))) (Fr.Sub.cons rfl (Fr.Sub.cons rfl (Fr.Sub.cons rfl (Fr.Sub.cons rfl (Fr.Sub.cons rfl (Fr.Sub.cons rfl (Fr.Sub.nil _))))))) (HSub.pick 0 rfl (HSub.pick 2 rfl (HSub.pick 1 rfl (HSub.pick 0 rfl (HSub.pick 2 rfl (HSub.pick 2 rfl (HSub.nil _)))))))
                ·
                  refine StepM.alloc rfl rfl rfl rfl rfl Tryz.zeroValue24 (fun b13 => ?_)
                  refine RunM.pick [10] (by kernel_rfl) rfl rfl (fun i hi => ?_)
                  obtain rfl : i = 10 := by simpa using hi
                  refine StepM.grows rfl rfl rfl rfl (z_app rfl rfl hdb hbl rfl rfl rfl rfl rfl (i := 4) rfl) (fun g37 hv37 => ?_)
                  refine RunM.pure (i := 13) rfl rfl rfl rfl (fun _ => Still.build_1_1 (fun x0_0 x1_0 => .agg #[x0_0, x1_0]) rfl rfl rfl (fun _ => by kernel_rfl)) (by kernel_rfl) (by kernel_rfl) rfl ?_
                  refine RunM.pick [16] (by kernel_rfl) rfl rfl (fun i hi => ?_)
                  obtain rfl : i = 16 := by simpa using hi
                  refine StepM.store rfl rfl rfl rfl rfl rfl (m := 1) rfl Tryz.sizeOf24 rfl rfl rfl (by simp) ?_
                  refine RunM.done (by kernel_rfl) ?_
                  show RunL _ _ _ [_] _ _
                  refine RunL.does0 rfl rfl (Does.store rfl rfl rfl (i := 3) rfl Tryz.sizeOf24 rfl (rfl) rfl) (fun _ _ => ?_)
                  refine RunL.nil ?_
                  exact Ends.meetG (b13, b14, g30, g37) ⟨hv30, hv37⟩ (Fr.Sub.cons rfl (Fr.Sub.cons rfl (Fr.Sub.nil _))) (Fr.Sub.cons rfl (Fr.Sub.cons rfl (Fr.Sub.cons rfl (Fr.Sub.cons rfl (Fr.Sub.cons rfl (Fr.Sub.cons rfl (Fr.Sub.nil _))))))) (HSub.pick 1 rfl (HSub.pick 2 rfl (HSub.pick 1 rfl (HSub.pick 0 rfl (HSub.pick 2 rfl (HSub.pick 2 rfl (HSub.nil _)))))))
              ·
                refine StepM.alloc rfl rfl rfl rfl rfl Tryz.zeroValue24 (fun b13 => ?_)
                refine RunM.pick [3] (by kernel_rfl) rfl rfl (fun i hi => ?_)
                obtain rfl : i = 3 := by simpa using hi
                refine StepM.grows rfl rfl rfl rfl (z_app rfl rfl hda hal rfl rfl rfl rfl rfl (i := 2) rfl) (fun g30 hv30 => ?_)
                refine RunM.pure (i := 6) rfl rfl rfl rfl (fun _ => Still.build_1_1 (fun x0_0 x1_0 => .agg #[x0_0, x1_0]) rfl rfl rfl (fun _ => by kernel_rfl)) (by kernel_rfl) (by kernel_rfl) rfl ?_
                refine RunM.pick [10] (by kernel_rfl) rfl rfl (fun i hi => ?_)
                obtain rfl : i = 10 := by simpa using hi
                refine StepM.grows rfl rfl rfl rfl (z_app rfl rfl hdb hbl rfl rfl rfl rfl rfl (i := 4) rfl) (fun g37 hv37 => ?_)
                refine RunM.pure (i := 13) rfl rfl rfl rfl (fun _ => Still.build_1_1 (fun x0_0 x1_0 => .agg #[x0_0, x1_0]) rfl rfl rfl (fun _ => by kernel_rfl)) (by kernel_rfl) (by kernel_rfl) rfl ?_
                refine RunM.pick [16] (by kernel_rfl) rfl rfl (fun i hi => ?_)
                obtain rfl : i = 16 := by simpa using hi
                refine StepM.store rfl rfl rfl rfl rfl rfl (m := 2) rfl Tryz.sizeOf24 rfl rfl rfl (by simp) ?_
                refine RunM.done (by kernel_rfl) ?_
                show RunL _ _ _ [_] _ _
                refine RunL.does0 rfl rfl (Does.store rfl rfl rfl (i := 3) rfl Tryz.sizeOf24 rfl (rfl) rfl) (fun _ _ => ?_)
                refine RunL.nil ?_
                exact Ends.meetG (b13, b14, g30, g37) ⟨hv30, hv37⟩ (Fr.Sub.cons rfl (Fr.Sub.cons rfl (Fr.Sub.nil _))) (Fr.Sub.cons rfl (Fr.Sub.cons rfl (Fr.Sub.cons rfl (Fr.Sub.cons rfl (Fr.Sub.cons rfl (Fr.Sub.cons rfl (Fr.Sub.nil _))))))) (HSub.pick 2 rfl (HSub.pick 2 rfl (HSub.pick 1 rfl (HSub.pick 0 rfl (HSub.pick 2 rfl (HSub.pick 2 rfl (HSub.nil _)))))))
          ·
            refine StepM.alloc rfl rfl rfl rfl rfl Tryz.zeroValue24 (fun b13 => ?_)
            refine RunM.pick [0, 15] (by kernel_rfl) rfl rfl (fun i hi => ?_)
            simp only [List.mem_cons, List.not_mem_nil, or_false] at hi
            rcases hi with rfl | rfl
            ·
              refine StepM.grows rfl rfl rfl rfl (Grows.empty rfl Tryz.underlying22 Tryz.sizeOf62 Tryz.zeroValue62) (fun b27 _ => ?_)
              refine RunM.pick [3, 15] (by kernel_rfl) rfl rfl (fun i hi => ?_)
              simp only [List.mem_cons, List.not_mem_nil, or_false] at hi
              rcases hi with rfl | rfl
              ·
                refine StepM.grows rfl rfl rfl rfl (z_app rfl rfl hda hal rfl rfl rfl rfl rfl (i := 0) rfl) (fun g30 hv30 => ?_)
                refine RunM.pure (i := 6) rfl rfl rfl rfl (fun _ => Still.build_1_1 (fun x0_0 x1_0 => .agg #[x0_0, x1_0]) rfl rfl rfl (fun _ => by kernel_rfl)) (by kernel_rfl) (by kernel_rfl) rfl ?_
                refine RunM.pick [10, 15] (by kernel_rfl) rfl rfl (fun i hi => ?_)
                simp only [List.mem_cons, List.not_mem_nil, or_false] at hi
                rcases hi with rfl | rfl
                ·
                  refine StepM.grows rfl rfl rfl rfl (z_app rfl rfl hdb hbl rfl rfl rfl rfl rfl (i := 3) rfl) (fun g37 hv37 => ?_)
                  refine RunM.pure (i := 13) rfl rfl rfl rfl (fun _ => Still.build_1_1 (fun x0_0 x1_0 => .agg #[x0_0, x1_0]) rfl rfl rfl (fun _ => by kernel_rfl)) (by kernel_rfl) (by kernel_rfl) rfl ?_
                  refine RunM.pick [15] (by kernel_rfl) rfl rfl (fun i hi => ?_)
                  obtain rfl : i = 15 := by simpa using hi
                  refine StepM.alloc rfl rfl rfl rfl rfl Tryz.zeroValue24 (fun b14 => ?_)
                  refine RunM.pick [16] (by kernel_rfl) rfl rfl (fun i hi => ?_)
                  obtain rfl : i = 16 := by simpa using hi
                  refine StepM.store rfl rfl rfl rfl rfl rfl (m := 4) rfl Tryz.sizeOf24 rfl rfl rfl (by simp) ?_
                  refine RunM.done (by kernel_rfl) ?_
                  show RunL _ _ _ [_] _ _
                  refine RunL.does0 rfl rfl (Does.store rfl rfl rfl (i := 0) rfl Tryz.sizeOf24 rfl (rfl) rfl) (fun _ _ => ?_)
                  refine RunL.nil ?_
                  exact Ends.meetG (b13, b14, g30, g37) ⟨hv30, hv37⟩ (Fr.Sub.cons rfl (Fr.Sub.cons rfl (Fr.Sub.nil _))) (Fr.Sub.cons rfl (Fr.Sub.cons rfl (Fr.Sub.cons rfl (Fr.Sub.cons rfl (Fr.Sub.cons rfl (Fr.Sub.cons rfl (Fr.Sub.nil _))))))) (HSub.pick 4 rfl (HSub.pick 0 rfl (HSub.pick 1 rfl (HSub.pick 0 rfl (HSub.pick 2 rfl (HSub.pick 2 rfl (HSub.nil _)))))))
                ·
                  refine StepM.alloc rfl rfl rfl rfl rfl Tryz.zeroValue24 (fun b14 => ?_)
                  refine RunM.pick [10] (by kernel_rfl) rfl rfl (fun i hi => ?_)
                  obtain rfl : i = 10 := by simpa using hi
                  refine StepM.grows rfl rfl rfl rfl (z_app rfl rfl hdb hbl rfl rfl rfl rfl rfl (i := 4) rfl) (fun g37 hv37 => ?_)
                  refine RunM.pure (i := 13) rfl rfl rfl rfl (fun _ => Still.build_1_1 (fun x0_0 x1_0 => .agg #[x0_0, x1_0]) rfl rfl rfl (fun _ => by kernel_rfl)) (by kernel_rfl) (by kernel_rfl) rfl ?_
                  refine RunM.pick [16] (by kernel_rfl) rfl rfl (fun i hi => ?_)
                  obtain rfl : i = 16 := by simpa using hi
                  refine StepM.store rfl rfl rfl rfl rfl rfl (m := 4) rfl Tryz.sizeOf24 rfl rfl rfl (by simp) ?_
                  refine RunM.done (by kernel_rfl) ?_
                  show RunL _ _ _ [_] _ _
                  refine RunL.does0 rfl rfl (Does.store rfl rfl rfl (i := 1) rfl Tryz.sizeOf24 rfl (rfl) rfl) (fun _ _ => ?_)
                  refine RunL.nil ?_
                  exact Ends.meetG (b13, b14, g30, g37) ⟨hv30, hv37⟩ (Fr.Sub.cons rfl (Fr.Sub.cons rfl (Fr.Sub.nil _))) (Fr.Sub.cons rfl (Fr.Sub.cons rfl (Fr.Sub.cons rfl (Fr.Sub.cons rfl (Fr.Sub.cons rfl (Fr.Sub.cons rfl (Fr.Sub.nil _))))))) (HSub.pick 4 rfl (HSub.pick 1 rfl (HSub.pick 1 rfl (HSub.pick 0 rfl (HSub.pick 2 rfl (HSub.pick 2 rfl (HSub.nil _)))))))
              ·
                refine StepM.alloc rfl rfl rfl rfl rfl Tryz.zeroValue24 (fun b14 => ?_)
                refine RunM.pick [3] (by kernel_rfl) rfl rfl (fun i hi => ?_)
                obtain rfl : i = 3 := by simpa using hi
                refine StepM.grows rfl rfl rfl rfl (z_app rfl rfl hda hal rfl rfl rfl rfl rfl (i := 1) rfl) (fun g30 hv30 => ?_)
                refine RunM.pure (i := 6) rfl rfl rfl rfl (fun _ => Still.build_1_1 (fun x0_0 x1_0 => .agg #[x0_0, x1_0]) rfl rfl rfl (fun _ => by kernel_rfl)) (by kernel_rfl) (by kernel_rfl) rfl ?_
                refine RunM.pick [10] (by kernel_rfl) rfl rfl (fun i hi => ?_)
                obtain rfl : i = 10 := by simpa using hi
                refine StepM.grows rfl rfl rfl rfl (z_app rfl rfl hdb hbl rfl rfl rfl rfl rfl (i := 4) rfl) (fun g37 hv37 => ?_)
                refine RunM.pure (i := 13) rfl rfl rfl rfl (fun _ => Still.build_1_1 (fun x0_0 x1_0 => .agg #[x0_0, x1_0]) rfl rfl rfl (fun _ => by kernel_rfl)) (by kernel_rfl) (by kernel_rfl) rfl ?_
                refine RunM.pick [16] (by kernel_rfl) rfl rfl (fun i hi => ?_)
                obtain rfl : i = 16 := by simpa using hi
                refine StepM.store rfl rfl rfl rfl rfl rfl (m := 4) rfl Tryz.sizeOf24 rfl rfl rfl (by simp) ?_
                refine RunM.done (by kernel_rfl) ?_
                show RunL _ _ _ [_] _ _
                refine RunL.does0 rfl rfl (Does.store rfl rfl rfl (i := 2) rfl Tryz.sizeOf24 rfl (rfl) rfl) (fun _ _ => ?_)
                refine RunL.nil ?_
                exact Ends.meetG (b13, b14, g30, g37) ⟨hv30, hv37⟩ (Fr.Sub.cons rfl (Fr.Sub.cons rfl (Fr.Sub.nil _))) (Fr.Sub.cons rfl (Fr.Sub.cons rfl (Fr.Sub.cons rfl (Fr.Sub.cons rfl (Fr.Sub.cons rfl (Fr.Sub.cons rfl (Fr.Sub.nil _))))))) (HSub.pick 4 rfl (HSub.pick 2 rfl (HSub.pick 1 rfl (HSub.pick 0 rfl (HSub.pick 2 rfl (HSub.pick 2 rfl (HSub.nil _)))))))
            ·
              refine StepM.alloc rfl rfl rfl rfl rfl Tryz.zeroValue24 (fun b14 => ?_)
              refine RunM.pick [0] (by kernel_rfl) rfl rfl (fun i hi => ?_)
              obtain rfl : i = 0 := by simpa using hi
              refine StepM.grows rfl rfl rfl rfl (Grows.empty rfl Tryz.underlying22 Tryz.sizeOf62 Tryz.zeroValue62) (fun b27 _ => ?_)
              refine RunM.pick [3] (by kernel_rfl) rfl rfl (fun i hi => ?_)
              obtain rfl : i = 3 := by simpa using hi
              refine StepM.grows rfl rfl rfl rfl (z_app rfl rfl hda hal rfl rfl rfl rfl rfl (i := 0) rfl) (fun g30 hv30 => ?_)
              refine RunM.pure (i := 6) rfl rfl rfl rfl (fun _ => Still.build_1_1 (fun x0_0 x1_0 => .agg #[x0_0, x1_0]) rfl rfl rfl (fun _ => by kernel_rfl)) (by kernel_rfl) (by kernel_rfl) rfl ?_
              refine RunM.pick [10] (by kernel_rfl) rfl rfl (fun i hi => ?_)
              obtain rfl : i = 10 := by simpa using hi
              refine StepM.grows rfl rfl rfl rfl (z_app rfl rfl hdb hbl rfl rfl rfl rfl rfl (i := 4) rfl) (fun g37 hv37 => ?_)
              refine RunM.pure (i := 13) rfl rfl rfl rfl (fun _ => Still.build_1_1 (fun x0_0 x1_0 => .agg #[x0_0, x1_0]) rfl rfl rfl (fun _ => by kernel_rfl)) (by kernel_rfl) (by kernel_rfl) rfl ?_
              refine RunM.pick [16] (by kernel_rfl) rfl rfl (fun i hi => ?_)
              obtain rfl : i = 16 := by simpa using hi
              refine StepM.store rfl rfl rfl rfl rfl rfl (m := 4) rfl Tryz.sizeOf24 rfl rfl rfl (by simp) ?_
              refine RunM.done (by kernel_rfl) ?_
              show RunL _ _ _ [_] _ _
              refine RunL.does0 rfl rfl (Does.store rfl rfl rfl (i := 3) rfl Tryz.sizeOf24 rfl (rfl) rfl) (fun _ _ => ?_)
              refine RunL.nil ?_
              exact Ends.meetG (b13, b14, g30, g37) ⟨hv30, hv37⟩ (Fr.Sub.cons rfl (Fr.Sub.cons rfl (Fr.Sub.nil _))) (Fr.Sub.cons rfl (Fr.Sub.cons rfl (Fr.Sub.cons rfl (Fr.Sub.cons rfl (Fr.Sub.cons rfl (Fr.Sub.cons rfl (Fr.Sub.nil _))))))) (HSub.pick 4 rfl (HSub.pick 3 rfl (HSub.pick 1 rfl (HSub.pick 0 rfl (HSub.pick 2 rfl (HSub.pick 2 rfl (HSub.nil _)))))))
          ·
            refine StepM.alloc rfl rfl rfl rfl rfl Tryz.zeroValue24 (fun b14 => ?_)
            refine RunM.pick [0, 14] (by kernel_rfl) rfl rfl (fun i hi => ?_)
            simp only [List.mem_cons, List.not_mem_nil, or_false] at hi
            rcases hi with rfl | rfl
            ·
              refine StepM.grows rfl rfl rfl rfl (Grows.empty rfl Tryz.underlying22 Tryz.sizeOf62 Tryz.zeroValue62) (fun b27 _ => ?_)
              refine RunM.pick [3, 14] (by kernel_rfl) rfl rfl (fun i hi => ?_)
              simp only [List.mem_cons, List.not_mem_nil, or_false] at hi
              rcases hi with rfl | rfl
              ·
                refine StepM.grows rfl rfl rfl rfl (z_app rfl rfl hda hal rfl rfl rfl rfl rfl (i := 0) rfl) (fun g30 hv30 => ?_)
                refine RunM.pure (i := 6) rfl rfl rfl rfl (fun _ => Still.build_1_1 (fun x0_0 x1_0 => .agg #[x0_0, x1_0]) rfl rfl rfl (fun _ => by kernel_rfl)) (by kernel_rfl) (by kernel_rfl) rfl ?_
                refine RunM.pick [10, 14] (by kernel_rfl) rfl rfl (fun i hi => ?_)
                simp only [List.mem_cons, List.not_mem_nil, or_false] at hi
                rcases hi with rfl | rfl
                ·
                  refine StepM.grows rfl rfl rfl rfl (z_app rfl rfl hdb hbl rfl rfl rfl rfl rfl (i := 3) rfl) (fun g37 hv37 => ?_)
                  refine RunM.pure (i := 13) rfl rfl rfl rfl (fun _ => Still.build_1_1 (fun x0_0 x1_0 => .agg #[x0_0, x1_0]) rfl rfl rfl (fun _ => by kernel_rfl)) (by kernel_rfl) (by kernel_rfl) rfl ?_
                  refine RunM.pick [14] (by kernel_rfl) rfl rfl (fun i hi => ?_)
                  obtain rfl : i = 14 := by simpa using hi
                  refine StepM.alloc rfl rfl rfl rfl rfl Tryz.zeroValue24 (fun b13 => ?_)
                  refine RunM.pick [16] (by kernel_rfl) rfl rfl (fun i hi => ?_)
                  obtain rfl : i = 16 := by simpa using hi
                  refine StepM.store rfl rfl rfl rfl rfl rfl (m := 0) rfl Tryz.sizeOf24 rfl rfl rfl (by simp) ?_
                  refine RunM.done (by kernel_rfl) ?_
                  show RunL _ _ _ [_] _ _
                  refine RunL.does0 rfl rfl (Does.store rfl rfl rfl (i := 4) rfl Tryz.sizeOf24 rfl (rfl) rfl) (fun _ _ => ?_)
                  refine RunL.nil ?_
                  exact Ends.meetG (b13, b14, g30, g37) ⟨hv30, hv37⟩ (Fr.Sub.cons rfl (Fr.Sub.cons rfl (Fr.Sub.nil _))) (Fr.Sub.cons rfl (Fr.Sub.cons rfl (Fr.Sub.cons rfl (Fr.Sub.cons rfl (Fr.Sub.cons rfl (Fr.Sub.cons rfl (Fr.Sub.nil _))))))) (HSub.pick 0 rfl (HSub.pick 3 rfl (HSub.pick 1 rfl (HSub.pick 0 rfl (HSub.pick 2 rfl (HSub.pick 2 rfl (HSub.nil _)))))))
                ·
                  refine StepM.alloc rfl rfl rfl rfl rfl Tryz.zeroValue24 (fun b13 => ?_)
                  refine RunM.pick [10] (by kernel_rfl) rfl rfl (fun i hi => ?_)
                  obtain rfl : i = 10 := by simpa using hi
                  refine StepM.grows rfl rfl rfl rfl (z_app rfl rfl hdb hbl rfl rfl rfl rfl rfl (i := 4) rfl) (fun g37 hv37 => ?_)
                  refine RunM.pure (i := 13) rfl rfl rfl rfl (fun _ => Still.build_1_1 (fun x0_0 x1_0 => .agg #[x0_0, x1_0]) rfl rfl rfl (fun _ => by kernel_rfl)) (by kernel_rfl) (by kernel_rfl) rfl ?_
                  refine RunM.pick [16] (by kernel_rfl) rfl rfl (fun i hi => ?_)
                  obtain rfl : i = 16 := by simpa using hi
                  refine StepM.store rfl rfl rfl rfl rfl rfl (m := 1) rfl Tryz.sizeOf24 rfl rfl rfl (by simp) ?_
                  refine RunM.done (by kernel_rfl) ?_
                  show RunL _ _ _ [_] _ _
                  refine RunL.does0 rfl rfl (Does.store rfl rfl rfl (i := 4) rfl Tryz.sizeOf24 rfl (rfl) rfl) (fun _ _ => ?_)
                  refine RunL.nil ?_
                  exact Ends.meetG (b13, b14, g30, g37) ⟨hv30, hv37⟩ (Fr.Sub.cons rfl (Fr.Sub.cons rfl (Fr.Sub.nil _))) (Fr.Sub.cons rfl (Fr.Sub.cons rfl (Fr.Sub.cons rfl (Fr.Sub.cons rfl (Fr.Sub.cons rfl (Fr.Sub.cons rfl (Fr.Sub.nil _))))))) (HSub.pick 1 rfl (HSub.pick 3 rfl (HSub.pick 1 rfl (HSub.pick 0 rfl (HSub.pick 2 rfl (HSub.pick 2 rfl (HSub.nil _)))))))
              ·
                refine StepM.alloc rfl rfl rfl rfl rfl Tryz.zeroValue24 (fun b13 => ?_)
                refine RunM.pick [3] (by kernel_rfl) rfl rfl (fun i hi => ?_)
                obtain rfl : i = 3 := by simpa using hi
                refine StepM.grows rfl rfl rfl rfl (z_app rfl rfl hda hal rfl rfl rfl rfl rfl (i := 1) rfl) (fun g30 hv30 => ?_)
                refine RunM.pure (i := 6) rfl rfl rfl rfl (fun _ => Still.build_1_1 (fun x0_0 x1_0 => .agg #[x0_0, x1_0]) rfl rfl rfl (fun _ => by kernel_rfl)) (by kernel_rfl) (by kernel_rfl) rfl ?_
                refine RunM.pick [10] (by kernel_rfl) rfl rfl (fun i hi => ?_)
                obtain rfl : i = 10 := by simpa using hi
                refine StepM.grows rfl rfl rfl rfl (z_app rfl rfl hdb hbl rfl rfl rfl rfl rfl (i := 4) rfl) (fun g37 hv37 => ?_)
                refine RunM.pure (i := 13) rfl rfl rfl rfl (fun _ => Still.build_1_1 (fun x0_0 x1_0 => .agg #[x0_0, x1_0]) rfl rfl rfl (fun _ => by kernel_rfl)) (by kernel_rfl) (by kernel_rfl) rfl ?_
                refine RunM.pick [16] (by kernel_rfl) rfl rfl (fun i hi => ?_)
                obtain rfl : i = 16 := by simpa using hi
                refine StepM.store rfl rfl rfl rfl rfl rfl (m := 2) rfl Tryz.sizeOf24 rfl rfl rfl (by simp) ?_
                refine RunM.done (by kernel_rfl) ?_
                show RunL _ _ _ [_] _ _
                refine RunL.does0 rfl rfl (Does.store rfl rfl rfl (i := 4) rfl Tryz.sizeOf24 rfl (rfl) rfl) (fun _ _ => ?_)
                refine RunL.nil ?_
                exact Ends.meetG (b13, b14, g30, g37) ⟨hv30, hv37⟩ (Fr.Sub.cons rfl (Fr.Sub.cons rfl (Fr.Sub.nil _))) (Fr.Sub.cons rfl (Fr.Sub.cons rfl (Fr.Sub.cons rfl (Fr.Sub.cons rfl (Fr.Sub.cons rfl (Fr.Sub.cons rfl (Fr.Sub.nil _))))))) (HSub.pick 2 rfl (HSub.pick 3 rfl (HSub.pick 1 rfl (HSub.pick 0 rfl (HSub.pick 2 rfl (HSub.pick 2 rfl (HSub.nil _)))))))
            ·
              refine StepM.alloc rfl rfl rfl rfl rfl Tryz.zeroValue24 (fun b13 => ?_)
              refine RunM.pick [0] (by kernel_rfl) rfl rfl (fun i hi => ?_)
              obtain rfl : i = 0 := by simpa using hi
              refine StepM.grows rfl rfl rfl rfl (Grows.empty rfl Tryz.underlying22 Tryz.sizeOf62 Tryz.zeroValue62) (fun b27 _ => ?_)
              refine RunM.pick [3] (by kernel_rfl) rfl rfl (fun i hi => ?_)
              obtain rfl : i = 3 := by simpa using hi
              refine StepM.grows rfl rfl rfl rfl (z_app rfl rfl hda hal rfl rfl rfl rfl rfl (i := 0) rfl) (fun g30 hv30 => ?_)
              refine RunM.pure (i := 6) rfl rfl rfl rfl (fun _ => Still.build_1_1 (fun x0_0 x1_0 => .agg #[x0_0, x1_0]) rfl rfl rfl (fun _ => by kernel_rfl)) (by kernel_rfl) (by kernel_rfl) rfl ?_
              refine RunM.pick [10] (by kernel_rfl) rfl rfl (fun i hi => ?_)
              obtain rfl : i = 10 := by simpa using hi
              refine StepM.grows rfl rfl rfl rfl (z_app rfl rfl hdb hbl rfl rfl rfl rfl rfl (i := 4) rfl) (fun g37 hv37 => ?_)
              refine RunM.pure (i := 13) rfl rfl rfl rfl (fun _ => Still.build_1_1 (fun x0_0 x1_0 => .agg #[x0_0, x1_0]) rfl rfl rfl (fun _ => by kernel_rfl)) (by kernel_rfl) (by kernel_rfl) rfl ?_
              refine RunM.pick [16] (by kernel_rfl) rfl rfl (fun i hi => ?_)
              obtain rfl : i = 16 := by simpa using hi
              refine StepM.store rfl rfl rfl rfl rfl rfl (m := 3) rfl Tryz.sizeOf24 rfl rfl rfl (by simp) ?_
              refine RunM.done (by kernel_rfl) ?_
              show RunL _ _ _ [_] _ _
              refine RunL.does0 rfl rfl (Does.store rfl rfl rfl (i := 4) rfl Tryz.sizeOf24 rfl (rfl) rfl) (fun _ _ => ?_)
              refine RunL.nil ?_
              exact Ends.meetG (b13, b14, g30, g37) ⟨hv30, hv37⟩ (Fr.Sub.cons rfl (Fr.Sub.cons rfl (Fr.Sub.nil _))) (Fr.Sub.cons rfl (Fr.Sub.cons rfl (Fr.Sub.cons rfl (Fr.Sub.cons rfl (Fr.Sub.cons rfl (Fr.Sub.cons rfl (Fr.Sub.nil _))))))) (HSub.pick 3 rfl (HSub.pick 3 rfl (HSub.pick 1 rfl (HSub.pick 0 rfl (HSub.pick 2 rfl (HSub.pick 2 rfl (HSub.nil _)))))))
        ·
          refine StepM.alloc rfl rfl rfl rfl rfl Tryz.zeroValue24 (fun b13 => ?_)
          refine RunM.pick [0, 7, 15] (by kernel_rfl) rfl rfl (fun i hi => ?_)
          simp only [List.mem_cons, List.not_mem_nil, or_false] at hi
          rcases hi with rfl | rfl | rfl
          ·
            refine StepM.grows rfl rfl rfl rfl (Grows.empty rfl Tryz.underlying22 Tryz.sizeOf62 Tryz.zeroValue62) (fun b27 _ => ?_)
            refine RunM.pick [3, 7, 15] (by kernel_rfl) rfl rfl (fun i hi => ?_)
            simp only [List.mem_cons, List.not_mem_nil, or_false] at hi
            rcases hi with rfl | rfl | rfl
            ·
              refine StepM.grows rfl rfl rfl rfl (z_app rfl rfl hda hal rfl rfl rfl rfl rfl (i := 0) rfl) (fun g30 hv30 => ?_)
              refine RunM.pure (i := 6) rfl rfl rfl rfl (fun _ => Still.build_1_1 (fun x0_0 x1_0 => .agg #[x0_0, x1_0]) rfl rfl rfl (fun _ => by kernel_rfl)) (by kernel_rfl) (by kernel_rfl) rfl ?_
              refine RunM.pick [7, 15] (by kernel_rfl) rfl rfl (fun i hi => ?_)
              simp only [List.mem_cons, List.not_mem_nil, or_false] at hi
              rcases hi with rfl | rfl
              ·
                refine StepM.grows rfl rfl rfl rfl (Grows.empty rfl Tryz.underlying22 Tryz.sizeOf62 Tryz.zeroValue62) (fun b34 _ => ?_)
                refine RunM.pick [10, 15] (by kernel_rfl) rfl rfl (fun i hi => ?_)
                simp only [List.mem_cons, List.not_mem_nil, or_false] at hi
                rcases hi with rfl | rfl
                ·
                  refine StepM.grows rfl rfl rfl rfl (z_app rfl rfl hdb hbl rfl rfl rfl rfl rfl (i := 0) rfl) (fun g37 hv37 => ?_)
                  refine RunM.pure (i := 13) rfl rfl rfl rfl (fun _ => Still.build_1_1 (fun x0_0 x1_0 => .agg #[x0_0, x1_0]) rfl rfl rfl (fun _ => by kernel_rfl)) (by kernel_rfl) (by kernel_rfl) rfl ?_
                  refine RunM.pick [15] (by kernel_rfl) rfl rfl (fun i hi => ?_)
                  obtain rfl : i = 15 := by simpa using hi
                  refine StepM.alloc rfl rfl rfl rfl rfl Tryz.zeroValue24 (fun b14 => ?_)
                  refine RunM.pick [16] (by kernel_rfl) rfl rfl (fun i hi => ?_)
                  obtain rfl : i = 16 := by simpa using hi
                  refine StepM.store rfl rfl rfl rfl rfl rfl (m := 5) rfl Tryz.sizeOf24 rfl rfl rfl (by simp) ?_
                  refine RunM.done (by kernel_rfl) ?_
                  show RunL _ _ _ [_] _ _
                  refine RunL.does0 rfl rfl (Does.store rfl rfl rfl (i := 0) rfl Tryz.sizeOf24 rfl (rfl) rfl) (fun _ _ => ?_)
                  refine RunL.nil ?_
                  exact Ends.meetG (b13, b14, g30, g37) ⟨hv30, hv37⟩ (Fr.Sub.cons rfl (Fr.Sub.cons rfl (Fr.Sub.nil _))) (Fr.Sub.cons rfl (Fr.Sub.cons rfl (Fr.Sub.cons rfl (Fr.Sub.cons rfl (Fr.Sub.cons rfl (Fr.Sub.cons rfl (Fr.Sub.nil _))))))) (HSub.pick 5 rfl (HSub.pick 0 rfl (HSub.pick 2 rfl (HSub.pick 0 rfl (HSub.pick 2 rfl (HSub.pick 2 rfl (HSub.nil _)))))))
                ·
                  refine StepM.alloc rfl rfl rfl rfl rfl Tryz.zeroValue24 (fun b14 => ?_)
                  refine RunM.pick [10] (by kernel_rfl) rfl rfl (fun i hi => ?_)
                  obtain rfl : i = 10 := by simpa using hi
                  refine StepM.grows rfl rfl rfl rfl (z_app rfl rfl hdb hbl rfl rfl rfl rfl rfl (i := 1) rfl) (fun g37 hv37 => ?_)
                  refine RunM.pure (i := 13) rfl rfl rfl rfl (fun _ => Still.build_1_1 (fun x0_0 x1_0 => .agg #[x0_0, x1_0]) rfl rfl rfl (fun _ => by kernel_rfl)) (by kernel_rfl) (by kernel_rfl) rfl ?_
                  refine RunM.pick [16] (by kernel_rfl) rfl rfl (fun i hi => ?_)
                  obtain rfl : i = 16 := by simpa using hi
                  refine StepM.store rfl rfl rfl rfl rfl rfl (m := 5) rfl Tryz.sizeOf24 rfl rfl rfl (by simp) ?_
                  refine RunM.done (by kernel_rfl) ?_
                  show RunL _ _ _ [_] _ _
                  refine RunL.does0 rfl rfl (Does.store rfl rfl rfl (i := 1) rfl Tryz.sizeOf24 rfl (rfl) rfl) (fun _ _ => ?_)
                  refine RunL.nil ?_
                  exact Ends.meetG (b13, b14, g30, g37) ⟨hv30, hv37⟩ (Fr.Sub.cons rfl (Fr.Sub.cons rfl (Fr.Sub.nil _))) (Fr.Sub.cons rfl (Fr.Sub.cons rfl (Fr.Sub.cons rfl (Fr.Sub.cons rfl (Fr.Sub.cons rfl (Fr.Sub.cons rfl (Fr.Sub.nil _))))))) (HSub.pick 5 rfl (HSub.pick 1 rfl (HSub.pick 2 rfl (HSub.pick 0 rfl (HSub.pick 2 rfl (HSub.pick 2 rfl (HSub.nil _)))))))
              ·
                refine StepM.alloc rfl rfl rfl rfl rfl Tryz.zeroValue24 (fun b14 => ?_)
                refine RunM.pick [7] (by kernel_rfl) rfl rfl (fun i hi => ?_)
                obtain rfl : i = 7 := by simpa using hi
                refine StepM.grows rfl rfl rfl rfl (Grows.empty rfl Tryz.underlying22 Tryz.sizeOf62 Tryz.zeroValue62) (fun b34 _ => ?_)
                refine RunM.pick [10] (by kernel_rfl) rfl rfl (fun i hi => ?_)
                obtain rfl : i = 10 := by simpa using hi
                refine StepM.grows rfl rfl rfl rfl (z_app rfl rfl hdb hbl rfl rfl rfl rfl rfl (i := 0) rfl) (fun g37 hv37 => ?_)
                refine RunM.pure (i := 13) rfl rfl rfl rfl (fun _ => Still.build_1_1 (fun x0_0 x1_0 => .agg #[x0_0, x1_0]) rfl rfl rfl (fun _ => by kernel_rfl)) (by kernel_rfl) (by kernel_rfl) rfl ?_
                refine RunM.pick [16] (by kernel_rfl) rfl rfl (fun i hi => ?_)
                obtain rfl : i = 16 := by simpa using hi
                refine StepM.store rfl rfl rfl rfl rfl rfl (m := 5) rfl Tryz.sizeOf24 rfl rfl rfl (by simp) ?_
                refine RunM.done (by kernel_rfl) ?_
                show RunL _ _ _ [_] _ _
                refine RunL.does0 rfl rfl (Does.store rfl rfl rfl (i := 2) rfl Tryz.sizeOf24 rfl (rfl) rfl) (fun _ _ => ?_)
                refine RunL.nil ?_
                exact Ends.meetG (b13, b14, g30, g37) ⟨hv30, hv37⟩ (Fr.Sub.cons rfl (Fr.Sub.cons rfl (Fr.Sub.nil _))) (Fr.Sub.cons rfl (Fr.Sub.cons rfl (Fr.Sub.cons rfl (Fr.Sub.cons rfl (Fr.Sub.cons rfl (Fr.Sub.cons rfl (Fr.Sub.nil _))))))) (HSub.pick 5 rfl (HSub.pick 2 rfl (HSub.pick 2 rfl (HSub.pick 0 rfl (HSub.pick 2 rfl (HSub.pick 2 rfl (HSub.nil _)))))))
            ·
              refine StepM.grows rfl rfl rfl rfl (Grows.empty rfl Tryz.underlying22 Tryz.sizeOf62 Tryz.zeroValue62) (fun b34 _ => ?_)
              refine RunM.pick [3, 15] (by kernel_rfl) rfl rfl (fun i hi => ?_)
              simp only [List.mem_cons, List.not_mem_nil, or_false] at hi
              rcases hi with rfl | rfl
              ·
                refine StepM.grows rfl rfl rfl rfl (z_app rfl rfl hda hal rfl rfl rfl rfl rfl (i := 1) rfl) (fun g30 hv30 => ?_)
                refine RunM.pure (i := 6) rfl rfl rfl rfl (fun _ => Still.build_1_1 (fun x0_0 x1_0 => .agg #[x0_0, x1_0]) rfl rfl rfl (fun _ => by kernel_rfl)) (by kernel_rfl) (by kernel_rfl) rfl ?_
                refine RunM.pick [10, 15] (by kernel_rfl) rfl rfl (fun i hi => ?_)
                simp only [List.mem_cons, List.not_mem_nil, or_false] at hi
                rcases hi with rfl | rfl
                ·
                  refine StepM.grows rfl rfl rfl rfl (z_app rfl rfl hdb hbl rfl rfl rfl rfl rfl (i := 1) rfl) (fun g37 hv37 => ?_)
                  refine RunM.pure (i := 13) rfl rfl rfl rfl (fun _ => Still.build_1_1 (fun x0_0 x1_0 => .agg #[x0_0, x1_0]) rfl rfl rfl (fun _ => by kernel_rfl)) (by kernel_rfl) (by kernel_rfl) rfl ?_
                  refine RunM.pick [15] (by kernel_rfl) rfl rfl (fun i hi => ?_)
                  obtain rfl : i = 15 := by simpa using hi
                  refine StepM.alloc rfl rfl rfl rfl rfl Tryz.zeroValue24 (fun b14 => ?_)
                  refine RunM.pick [16] (by kernel_rfl) rfl rfl (fun i hi => ?_)
                  obtain rfl : i = 16 := by simpa using hi
                  refine StepM.store rfl rfl rfl rfl rfl rfl (m := 5) rfl Tryz.sizeOf24 rfl rfl rfl (by simp) ?_
                  refine RunM.done (by kernel_rfl) ?_
                  show RunL _ _ _ [_] _ _
                  refine RunL.does0 rfl rfl (Does.store rfl rfl rfl (i := 0) rfl Tryz.sizeOf24 rfl (rfl) rfl) (fun _ _ => ?_)
                  refine RunL.nil ?_
                  exact Ends.meetG (b13, b14, g30, g37) ⟨hv30, hv37⟩ (Fr.Sub.cons rfl (Fr.Sub.cons rfl (Fr.Sub.nil _))) (Fr.Sub.cons rfl (Fr.Sub.cons rfl (Fr.Sub.cons rfl (Fr.Sub.cons rfl (Fr.Sub.cons rfl (Fr.Sub.cons rfl (Fr.Sub.nil _))))))) (HSub.pick 5 rfl (HSub.pick 0 rfl (HSub.pick 1 rfl (HSub.pick 0 rfl (HSub.pick 2 rfl (HSub.pick 2 rfl (HSub.nil _)))))))
                ·
                  refine StepM.alloc rfl rfl rfl rfl rfl Tryz.zeroValue24 (fun b14 => ?_)
                  refine RunM.pick [10] (by kernel_rfl) rfl rfl (fun i hi => ?_)
                  obtain rfl : i = 10 := by simpa using hi
                  refine StepM.grows rfl rfl rfl rfl (z_app rfl rfl hdb hbl rfl rfl rfl rfl rfl (i := 2) rfl) (fun g37 hv37 => ?_)
                  refine RunM.pure (i := 13) rfl rfl rfl rfl (fun _ => Still.build_1_1 (fun x0_0 x1_0 => .agg #[x0_0, x1_0]) rfl rfl rfl (fun _ => by kernel_rfl)) (by kernel_rfl) (by kernel_rfl) rfl ?_
                  refine RunM.pick [16] (by kernel_rfl) rfl rfl (fun i hi => ?_)
                  obtain rfl : i = 16 := by simpa using hi
                  refine StepM.store rfl rfl rfl rfl rfl rfl (m := 5) rfl Tryz.sizeOf24 rfl rfl rfl (by simp) ?_
                  refine RunM.done (by kernel_rfl) ?_
                  show RunL _ _ _ [_] _ _
                  refine RunL.does0 rfl rfl (Does.store rfl rfl rfl (i := 1) rfl Tryz.sizeOf24 rfl (rfl) rfl) (fun _ _ => ?_)
                  refine RunL.nil ?_
                  exact Ends.meetG (b13, b14, g30, g37) ⟨hv30, hv37⟩ (Fr.Sub.cons rfl (Fr.Sub.cons rfl (Fr.Sub.nil _))) (Fr.Sub.cons rfl (Fr.Sub.cons rfl (Fr.Sub.cons rfl (Fr.Sub.cons rfl (Fr.Sub.cons rfl (Fr.Sub.cons rfl (Fr.Sub.nil _))))))) (HSub.pick 5 rfl (HSub.pick 1 rfl (HSub.pick 1 rfl (HSub.pick 0 rfl (HSub.pick 2 rfl (HSub.pick 2 rfl (HSub.nil _)))))))
              ·
                refine StepM.alloc rfl rfl rfl rfl rfl Tryz.zeroValue24 (fun b14 => ?_)
                refine RunM.pick [3] (by kernel_rfl) rfl rfl (fun i hi => ?_)
                obtain rfl : i = 3 := by simpa using hi
                refine StepM.grows rfl rfl rfl rfl (z_app rfl rfl hda hal rfl rfl rfl rfl rfl (i := 2) rfl) (fun g30 hv30 => ?_)
                refine RunM.pure (i := 6) rfl rfl rfl rfl (fun _ => Still.build_1_1 (fun x0_0 x1_0 => .agg #[x0_0, x1_0]) rfl rfl rfl (fun _ => by kernel_rfl)) (by kernel_rfl) (by kernel_rfl) rfl ?_
                refine RunM.pick [10] (by kernel_rfl) rfl rfl (fun i hi => ?_)
                obtain rfl : i = 10 := by simpa using hi
                refine StepM.grows rfl rfl rfl rfl (z_app rfl rfl hdb hbl rfl rfl rfl rfl rfl (i := 2) rfl) (fun g37 hv37 => ?_)
                refine RunM.pure (i := 13) rfl rfl rfl rfl (fun _ => Still.build_1_1 (fun x0_0 x1_0 => .agg #[x0_0, x1_0]) rfl rfl rfl (fun _ => by kernel_rfl)) (by kernel_rfl) (by kernel_rfl) rfl ?_
                refine RunM.pick [16] (by kernel_rfl) rfl rfl (fun i hi => ?_)
                obtain rfl : i = 16 := by simpa using hi
                refine StepM.store rfl rfl rfl rfl rfl rfl (m := 5) rfl Tryz.sizeOf24 rfl rfl rfl (by simp) ?_
                refine RunM.done (by kernel_rfl) ?_
                show RunL _ _ _ [_] _ _
                refine RunL.does0 rfl rfl (Does.store rfl rfl rfl (i := 2) rfl Tryz.sizeOf24 rfl (rfl) rfl) (fun _ _ => ?_)
                refine RunL.nil ?_
                exact Ends.meetG (b13, b14, g30, g37) ⟨hv30, hv37⟩ (Fr.Sub.cons rfl (Fr.Sub.cons rfl (Fr.Sub.nil _))) (Fr.Sub.cons rfl (Fr.Sub.cons rfl (Fr.Sub.cons rfl (Fr.Sub.cons rfl (Fr.Sub.cons rfl (Fr.Sub.cons rfl (Fr.Sub.nil _))))))) (HSub.pick 5 rfl (HSub.pick 2 rfl (HSub.pick 1 rfl (HSub.pick 0 rfl (HSub.pick 2 rfl (HSub.pick 2 rfl (HSub.nil _)))))))
            ·
              refine StepM.alloc rfl rfl rfl rfl rfl Tryz.zeroValue24 (fun b14 => ?_)
              refine RunM.pick [3, 7] (by kernel_rfl) rfl rfl (fun i hi => ?_)
              simp only [List.mem_cons, List.not_mem_nil, or_false] at hi
              rcases hi with rfl | rfl
              ·
                refine StepM.grows rfl rfl rfl rfl (z_app rfl rfl hda hal rfl rfl rfl rfl rfl (i := 1) rfl) (fun g30 hv30 => ?_)
                refine RunM.pure (i := 6) rfl rfl rfl rfl (fun _ => Still.build_1_1 (fun x0_0 x1_0 => .agg #[x0_0, x1_0]) rfl rfl rfl (fun _ => by kernel_rfl)) (by kernel_rfl) (by kernel_rfl) rfl ?_
                refine RunM.pick [7] (by kernel_rfl) rfl rfl (fun i hi => ?_)
                obtain rfl : i = 7 := by simpa using hi
                refine StepM.grows rfl rfl rfl rfl (Grows.empty rfl Tryz.underlying22 Tryz.sizeOf62 Tryz.zeroValue62) (fun b34 _ => ?_)
                refine RunM.pick [10] (by kernel_rfl) rfl rfl (fun i hi => ?_)
                obtain rfl : i = 10 := by simpa using hi
                refine StepM.grows rfl rfl rfl rfl (z_app rfl rfl hdb hbl rfl rfl rfl rfl rfl (i := 0) rfl) (fun g37 hv37 => ?_)
                refine RunM.pure (i := 13) rfl rfl rfl rfl (fun _ => Still.build_1_1 (fun x0_0 x1_0 => .agg #[x0_0, x1_0]) rfl rfl rfl (fun _ => by kernel_rfl)) (by kernel_rfl) (by kernel_rfl) rfl ?_
                refine RunM.pick [16] (by kernel_rfl) rfl rfl (fun i hi => ?_)
                obtain rfl : i = 16 := by simpa using hi
                refine StepM.store rfl rfl rfl rfl rfl rfl (m := 5) rfl Tryz.sizeOf24 rfl rfl rfl (by simp) ?_
                refine RunM.done (by kernel_rfl) ?_
                show RunL _ _ _ [_] _ _
                refine RunL.does0 rfl rfl (Does.store rfl rfl rfl (i := 3) rfl Tryz.sizeOf24 rfl (rfl) rfl) (fun _ _ => ?_)
                refine RunL.nil ?_
                exact Ends.meetG (b13, b14, g30, g37) ⟨hv30, hv37⟩ (Fr.Sub.cons rfl (Fr.Sub.cons rfl (Fr.Sub.nil _))) (Fr.Sub.cons rfl (Fr.Sub.cons rfl (Fr.Sub.cons rfl (Fr.Sub.cons rfl (Fr.Sub.cons rfl (Fr.Sub.cons rfl (Fr.Sub.nil _))))))) (HSub.pick 5 rfl (HSub.pick 3 rfl (HSub.pick 2 rfl (HSub.pick 0 rfl (HSub.pick 2 rfl (HSub.pick 2 rfl (HSub.nil _)))))))
              ·
                refine StepM.grows rfl rfl rfl rfl (Grows.empty rfl Tryz.underlying22 Tryz.sizeOf62 Tryz.zeroValue62) (fun b34 _ => ?_)
                refine RunM.pick [3] (by kernel_rfl) rfl rfl (fun i hi => ?_)
                obtain rfl : i = 3 := by simpa using hi
                refine StepM.grows rfl rfl rfl rfl (z_app rfl rfl hda hal rfl rfl rfl rfl rfl (i := 2) rfl) (fun g30 hv30 => ?_)
                refine RunM.pure (i := 6) rfl rfl rfl rfl (fun _ => Still.build_1_1 (fun x0_0 x1_0 => .agg #[x0_0, x1_0]) rfl rfl rfl (fun _ => by kernel_rfl)) (by kernel_rfl) (by kernel_rfl) rfl ?_
                refine RunM.pick [10] (by kernel_rfl) rfl rfl (fun i hi => ?_)
                obtain rfl : i = 10 := by simpa using hi
                refine StepM.grows rfl rfl rfl rfl (z_app rfl rfl hdb hbl rfl rfl rfl rfl rfl (i := 1) rfl) (fun g37 hv37 => ?_)
                refine RunM.pure (i := 13) rfl rfl rfl rfl (fun _ => Still.build_1_1 (fun x0_0 x1_0 => .agg #[x0_0, x1_0]) rfl rfl rfl (fun _ => by kernel_rfl)) (by kernel_rfl) (by kernel_rfl) rfl ?_
                refine RunM.pick [16] (by kernel_rfl) rfl rfl (fun i hi => ?_)
                obtain rfl : i = 16 := by simpa using hi
                refine StepM.store rfl rfl rfl rfl rfl rfl (m := 5) rfl Tryz.sizeOf24 rfl rfl rfl (by simp) ?_
                refine RunM.done (by kernel_rfl) ?_
                show RunL _ _ _ [_] _ _
                refine RunL.does0 rfl rfl (Does.store rfl rfl rfl (i := 3) rfl Tryz.sizeOf24 rfl (rfl) rfl) (fun _ _ => ?_)
                refine RunL.nil ?_
                exact Ends.meetG (b13, b14, g30, g37) ⟨hv30, hv37⟩ (Fr.Sub.cons rfl (Fr.Sub.cons rfl (Fr.Sub.nil _))) (Fr.Sub.cons rfl (Fr.Sub.cons rfl (Fr.Sub.cons rfl (Fr.Sub.cons rfl (Fr.Sub.cons rfl (Fr.Sub.cons rfl (Fr.Sub.nil _))))))) (HSub.pick 5 rfl (HSub.pick 3 rfl (HSub.pick 1 rfl (HSub.pick 0 rfl (HSub.pick 2 rfl (HSub.pick 2 rfl (HSub.nil _)))))))
          ·
            refine StepM.grows rfl rfl rfl rfl (Grows.empty rfl Tryz.underlying22 Tryz.sizeOf62 Tryz.zeroValue62) (fun b34 _ => ?_)
            refine RunM.pick [0, 15] (by kernel_rfl) rfl rfl (fun i hi => ?_)
            simp only [List.mem_cons, List.not_mem_nil, or_false] at hi
            rcases hi with rfl | rfl
            ·
              refine StepM.grows rfl rfl rfl rfl (Grows.empty rfl Tryz.underlying22 Tryz.sizeOf62 Tryz.zeroValue62) (fun b27 _ => ?_)
              refine RunM.pick [3, 15] (by kernel_rfl) rfl rfl (fun i hi => ?_)
              simp only [List.mem_cons, List.not_mem_nil, or_false] at hi
              rcases hi with rfl | rfl
              ·
                refine StepM.grows rfl rfl rfl rfl (z_app rfl rfl hda hal rfl rfl rfl rfl rfl (i := 0) rfl) (fun g30 hv30 => ?_)
                refine RunM.pure (i := 6) rfl rfl rfl rfl (fun _ => Still.build_1_1 (fun x0_0 x1_0 => .agg #[x0_0, x1_0]) rfl rfl rfl (fun _ => by kernel_rfl)) (by kernel_rfl) (by kernel_rfl) rfl ?_
                refine RunM.pick [10, 15] (by kernel_rfl) rfl rfl (fun i hi => ?_)
                simp only [List.mem_cons, List.not_mem_nil, or_false] at hi
                rcases hi with rfl | rfl
                ·
                  refine StepM.grows rfl rfl rfl rfl (z_app rfl rfl hdb hbl rfl rfl rfl rfl rfl (i := 2) rfl) (fun g37 hv37 => ?_)
                  refine RunM.pure (i := 13) rfl rfl rfl rfl (fun _ => Still.build_1_1 (fun x0_0 x1_0 => .agg #[x0_0, x1_0]) rfl rfl rfl (fun _ => by kernel_rfl)) (by kernel_rfl) (by kernel_rfl) rfl ?_
                  refine RunM.pick [15] (by kernel_rfl) rfl rfl (fun i hi => ?_)
                  obtain rfl : i = 15 := by simpa using hi
                  refine StepM.alloc rfl rfl rfl rfl rfl Tryz.zeroValue24 (fun b14 => ?_)
                  refine RunM.pick [16] (by kernel_rfl) rfl rfl (fun i hi => ?_)
                  obtain rfl : i = 16 := by simpa using hi
                  refine StepM.store rfl rfl rfl rfl rfl rfl (m := 5) rfl Tryz.sizeOf24 rfl rfl rfl (by simp) ?_
                  refine RunM.done (by kernel_rfl) ?_
                  show RunL _ _ _ [_] _ _
                  refine RunL.does0 rfl rfl (Does.store rfl rfl rfl (i := 0) rfl Tryz.sizeOf24 rfl (rfl) rfl) (fun _ _ => ?_)
                  refine RunL.nil ?_
                  exact Ends.meetG (b13, b14, g30, g37) ⟨hv30, hv37⟩ (Fr.Sub.cons rfl (Fr.Sub.cons rfl (Fr.Sub.nil _))) (Fr.Sub.cons rfl (Fr.Sub.cons rfl (Fr.Sub.cons rfl (Fr.Sub.cons rfl (Fr.Sub.cons rfl (Fr.Sub.cons rfl (Fr.Sub.nil _))))))) (HSub.pick 5 rfl (HSub.pick 0 rfl (HSub.pick 1 rfl (HSub.pick 0 rfl (HSub.pick 2 rfl (HSub.pick 2 rfl (HSub.nil _)))))))
                ·
                  refine StepM.alloc rfl rfl rfl rfl rfl Tryz.zeroValue24 (fun b14 => ?_)
                  refine RunM.pick [10] (by kernel_rfl) rfl rfl (fun i hi => ?_)
                  obtain rfl : i = 10 := by simpa using hi
                  refine StepM.grows rfl rfl rfl rfl (z_app rfl rfl hdb hbl rfl rfl rfl rfl rfl (i := 3) rfl) (fun g37 hv37 => ?_)
                  refine RunM.pure (i := 13) rfl rfl rfl rfl (fun _ => Still.build_1_1 (fun x0_0 x1_0 => .agg #[x0_0, x1_0]) rfl rfl rfl (fun _ => by kernel_rfl)) (by kernel_rfl) (by kernel_rfl) rfl ?_
                  refine RunM.pick [16] (by kernel_rfl) rfl rfl (fun i hi => ?_)
                  obtain rfl : i = 16 := by simpa using hi
                  refine StepM.store rfl rfl rfl rfl rfl rfl (m := 5) rfl Tryz.sizeOf24 rfl rfl rfl (by simp) ?_
                  refine RunM.done (by kernel_rfl) ?_
                  show RunL _ _ _ [_] _ _
                  refine RunL.does0 rfl rfl (Does.store rfl rfl rfl (i := 1) rfl Tryz.sizeOf24 rfl (rfl) rfl) (fun _ _ => ?_)
                  refine RunL.nil ?_
                  exact Ends.meetG (b13, b14, g30, g37) ⟨hv30, hv37⟩ (Fr.Sub.cons rfl (Fr.Sub.cons rfl (Fr.Sub.nil _))) (Fr.Sub.cons rfl (Fr.Sub.cons rfl (Fr.Sub.cons rfl (Fr.Sub.cons rfl (Fr.Sub.cons rfl (Fr.Sub.cons rfl (Fr.Sub.nil _))))))) (HSub.pick 5 rfl (HSub.pick 1 rfl (HSub.pick 1 rfl (HSub.pick 0 rfl (HSub.pick 2 rfl (HSub.pick 2 rfl (HSub.nil _)))))))
              ·
                refine StepM.alloc rfl rfl rfl rfl rfl Tryz.zeroValue24 (fun b14 => ?_)
                refine RunM.pick [3] (by kernel_rfl) rfl rfl (fun i hi => ?_)
                obtain rfl : i = 3 := by simpa using hi
                refine StepM.grows rfl rfl rfl rfl (z_app rfl rfl hda hal rfl rfl rfl rfl rfl (i := 1) rfl) (fun g30 hv30 => ?_)
                refine RunM.pure (i := 6) rfl rfl rfl rfl (fun _ => Still.build_1_1 (fun x0_0 x1_0 => .agg #[x0_0, x1_0]) rfl rfl rfl (fun _ => by kernel_rfl)) (by kernel_rfl) (by kernel_rfl) rfl ?_
                refine RunM.pick [10] (by kernel_rfl) rfl rfl (fun i hi => ?_)
                obtain rfl : i = 10 := by simpa using hi
                refine StepM.grows rfl rfl rfl rfl (z_app rfl rfl hdb hbl rfl rfl rfl rfl rfl (i := 3) rfl) (fun g37 hv37 => ?_)
                refine RunM.pure (i := 13) rfl rfl rfl rfl (fun _ => Still.build_1_1 (fun x0_0 x1_0 => .agg #[x0_0, x1_0]) rfl rfl rfl (fun _ => by kernel_rfl)) (by kernel_rfl) (by kernel_rfl) rfl ?_
                refine RunM.pick [16] (by kernel_rfl) rfl rfl (fun i hi => ?_)
                obtain rfl : i = 16 := by simpa using hi
                refine StepM.store rfl rfl rfl rfl rfl rfl (m := 5) rfl Tryz.sizeOf24 rfl rfl rfl (by simp) ?_
                refine RunM.done (by kernel_rfl) ?_
                show RunL _ _ _ [_] _ _
                refine RunL.does0 rfl rfl (Does.store rfl rfl rfl (i := 2) rfl Tryz.sizeOf24 rfl (rfl) rfl) (fun _ _ => ?_)
                refine RunL.nil ?_
                exact Ends.meetG (b13, b14, g30, g37) ⟨hv30, hv37⟩ (Fr.Sub.cons rfl (Fr.Sub.cons rfl (Fr.Sub.nil _))) (Fr.Sub.cons rfl (Fr.Sub.cons rfl (Fr.Sub.cons rfl (Fr.Sub.cons rfl (Fr.Sub.cons rfl (Fr.Sub.cons rfl (Fr.Sub.nil _))))))) (HSub.pick 5 rfl (HSub.pick 2 rfl (HSub.pick 1 rfl (HSub.pick 0 rfl (HSub.pick 2 rfl (HSub.pick 2 rfl (HSub.nil _)))))))
            ·
              refine StepM.alloc rfl rfl rfl rfl rfl Tryz.zeroValue24 (fun b14 => ?_)
              refine RunM.pick [0] (by kernel_rfl) rfl rfl (fun i hi => ?_)
              obtain rfl : i = 0 := by simpa using hi
              refine StepM.grows rfl rfl rfl rfl (Grows.empty rfl Tryz.underlying22 Tryz.sizeOf62 Tryz.zeroValue62) (fun b27 _ => ?_)
              refine RunM.pick [3] (by kernel_rfl) rfl rfl (fun i hi => ?_)
              obtain rfl : i = 3 := by simpa using hi
              refine StepM.grows rfl rfl rfl rfl (z_app rfl rfl hda hal rfl rfl rfl rfl rfl (i := 0) rfl) (fun g30 hv30 => ?_)
              refine RunM.pure (i := 6) rfl rfl rfl rfl (fun _ => Still.build_1_1 (fun x0_0 x1_0 => .agg #[x0_0, x1_0]) rfl rfl rfl (fun _ => by kernel_rfl)) (by kernel_rfl) (by kernel_rfl) rfl ?_
              refine RunM.pick [10] (by kernel_rfl) rfl rfl (fun i hi => ?_)
              obtain rfl : i = 10 := by simpa using hi
              refine StepM.grows rfl rfl rfl rfl (z_app rfl rfl hdb hbl rfl rfl rfl rfl rfl (i := 3) rfl) (fun g37 hv37 => ?_)
              refine RunM.pure (i := 13) rfl rfl rfl rfl (fun _ => Still.build_1_1 (fun x0_0 x1_0 => .agg #[x0_0, x1_0]) rfl rfl rfl (fun _ => by kernel_rfl)) (by kernel_rfl) (by kernel_rfl) rfl ?_
              refine RunM.pick [16] (by kernel_rfl) rfl rfl (fun i hi => ?_)
              obtain rfl : i = 16 := by simpa using hi
              refine StepM.store rfl rfl rfl rfl rfl rfl (m := 5) rfl Tryz.sizeOf24 rfl rfl rfl (by simp) ?_
              refine RunM.done (by kernel_rfl) ?_
              show RunL _ _ _ [_] _ _
              refine RunL.does0 rfl rfl (Does.store rfl rfl rfl (i := 3) rfl Tryz.sizeOf24 rfl (rfl) rfl) (fun _ _ => ?_)
              refine RunL.nil ?_
              exact Ends.meetG (b13, b14, g30, g37) ⟨hv30, hv37⟩ (Fr.Sub.cons rfl (Fr.Sub.cons rfl (Fr.Sub.nil _))) (Fr.Sub.cons rfl (Fr.Sub.cons rfl (Fr.Sub.cons rfl (Fr.Sub.cons rfl (Fr.Sub.cons rfl (Fr.Sub.cons rfl (Fr.Sub.nil _))))))) (HSub.pick 5 rfl (HSub.pick 3 rfl (HSub.pick 1 rfl (HSub.pick 0 rfl (HSub.pick 2 rfl (HSub.pick 2 rfl (HSub.nil _)))))))
          ·
            refine StepM.alloc rfl rfl rfl rfl rfl Tryz.zeroValue24 (fun b14 => ?_)
            refine RunM.pick [0, 7] (by kernel_rfl) rfl rfl (fun i hi => ?_)
            simp only [List.mem_cons, List.not_mem_nil, or_false] at hi
            rcases hi with rfl | rfl
            ·
              refine StepM.grows rfl rfl rfl rfl (Grows.empty rfl Tryz.underlying22 Tryz.sizeOf62 Tryz.zeroValue62) (fun b27 _ => ?_)
              refine RunM.pick [3, 7] (by kernel_rfl) rfl rfl (fun i hi => ?_)
              simp only [List.mem_cons, List.not_mem_nil, or_false] at hi
              rcases hi with rfl | rfl
              ·
                refine StepM.grows rfl rfl rfl rfl (z_app rfl rfl hda hal rfl rfl rfl rfl rfl (i := 0) rfl) (fun g30 hv30 => ?_)
                refine RunM.pure (i := 6) rfl rfl rfl rfl (fun _ => Still.build_1_1 (fun x0_0 x1_0 => .agg #[x0_0, x1_0]) rfl rfl rfl (fun _ => by kernel_rfl)) (by kernel_rfl) (by kernel_rfl) rfl ?_
                refine RunM.pick [7] (by kernel_rfl) rfl rfl (fun i hi => ?_)
                obtain rfl : i = 7 := by simpa using hi
                refine StepM.grows rfl rfl rfl rfl (Grows.empty rfl Tryz.underlying22 Tryz.sizeOf62 Tryz.zeroValue62) (fun b34 _ => ?_)
                refine RunM.pick [10] (by kernel_rfl) rfl rfl (fun i hi => ?_)
                obtain rfl : i = 10 := by simpa using hi
                refine StepM.grows rfl rfl rfl rfl (z_app rfl rfl hdb hbl rfl rfl rfl rfl rfl (i := 0) rfl) (fun g37 hv37 => ?_)
                refine RunM.pure (i := 13) rfl rfl rfl rfl (fun _ => Still.build_1_1 (fun x0_0 x1_0 => .agg #[x0_0, x1_0]) rfl rfl rfl (fun _ => by kernel_rfl)) (by kernel_rfl) (by kernel_rfl) rfl ?_
                refine RunM.pick [16] (by kernel_rfl) rfl rfl (fun i hi => ?_)
                obtain rfl : i = 16 := by simpa using hi
                refine StepM.store rfl rfl rfl rfl rfl rfl (m := 5) rfl Tryz.sizeOf24 rfl rfl rfl (by simp) ?_
                refine RunM.done (by kernel_rfl) ?_
                show RunL _ _ _ [_] _ _
                refine RunL.does0 rfl rfl (Does.store rfl rfl rfl (i := 4) rfl Tryz.sizeOf24 rfl (rfl) rfl) (fun _ _ => ?_)
                refine RunL.nil ?_
                exact Ends.meetG (b13, b14, g30, g37) ⟨hv30, hv37⟩ (Fr.Sub.cons rfl (Fr.Sub.cons rfl (Fr.Sub.nil _))) (Fr.Sub.cons rfl (Fr.Sub.cons rfl (Fr.Sub.cons rfl (Fr.Sub.cons rfl (Fr.Sub.cons rfl (Fr.Sub.cons rfl (Fr.Sub.nil _))))))) (HSub.pick 5 rfl (HSub.pick 4 rfl (HSub.pick 2 rfl (HSub.pick 0 rfl (HSub.pick 2 rfl (HSub.pick 2 rfl (HSub.nil _)))))))
              ·
                refine StepM.grows rfl rfl rfl rfl (Grows.empty rfl Tryz.underlying22 Tryz.sizeOf62 Tryz.zeroValue62) (fun b34 _ => ?_)
                refine RunM.pick [3] (by kernel_rfl) rfl rfl (fun i hi => ?_)
                obtain rfl : i = 3 := by simpa using hi
                refine StepM.grows rfl rfl rfl rfl (z_app rfl rfl hda hal rfl rfl rfl rfl rfl (i := 1) rfl) (fun g30 hv30 => ?_)
                refine RunM.pure (i := 6) rfl rfl rfl rfl (fun _ => Still.build_1_1 (fun x0_0 x1_0 => .agg #[x0_0, x1_0]) rfl rfl rfl (fun _ => by kernel_rfl)) (by kernel_rfl) (by kernel_rfl) rfl ?_
                refine RunM.pick [10] (by kernel_rfl) rfl rfl (fun i hi => ?_)
                obtain rfl : i = 10 := by simpa using hi
                refine StepM.grows rfl rfl rfl rfl (z_app rfl rfl hdb hbl rfl rfl rfl rfl rfl (i := 1) rfl) (fun g37 hv37 => ?_)
                refine RunM.pure (i := 13) rfl rfl rfl rfl (fun _ => Still.build_1_1 (fun x0_0 x1_0 => .agg #[x0_0, x1_0]) rfl rfl rfl (fun _ => by kernel_rfl)) (by kernel_rfl) (by kernel_rfl) rfl ?_
                refine RunM.pick [16] (by kernel_rfl) rfl rfl (fun i hi => ?_)
                obtain rfl : i = 16 := by simpa using hi
                refine StepM.store rfl rfl rfl rfl rfl rfl (m := 5) rfl Tryz.sizeOf24 rfl rfl rfl (by simp) ?_
                refine RunM.done (by kernel_rfl) ?_
                show RunL _ _ _ [_] _ _
                refine RunL.does0 rfl rfl (Does.store rfl rfl rfl (i := 4) rfl Tryz.sizeOf24 rfl (rfl) rfl) (fun _ _ => ?_)
                refine RunL.nil ?_
                exact Ends.meetG (b13, b14, g30, g37) ⟨hv30, hv37⟩ (Fr.Sub.cons rfl (Fr.Sub.cons rfl (Fr.Sub.nil _))) (Fr.Sub.cons rfl (Fr.Sub.cons rfl (Fr.Sub.cons rfl (Fr.Sub.cons rfl (Fr.Sub.cons rfl (Fr.Sub.cons rfl (Fr.Sub.nil _))))))) (HSub.pick 5 rfl (HSub.pick 4 rfl (HSub.pick 1 rfl (HSub.pick 0 rfl (HSub.pick 2 rfl (HSub.pick 2 rfl (HSub.nil _)))))))
            ·
              refine StepM.grows rfl rfl rfl rfl (Grows.empty rfl Tryz.underlying22 Tryz.sizeOf62 Tryz.zeroValue62) (fun b34 _ => ?_)
              refine RunM.pick [0] (by kernel_rfl) rfl rfl (fun i hi => ?_)
              obtain rfl : i = 0 := by simpa using hi
              refine StepM.grows rfl rfl rfl rfl (Grows.empty rfl Tryz.underlying22 Tryz.sizeOf62 Tryz.zeroValue62) (fun b27 _ => ?_)
              refine RunM.pick [3] (by kernel_rfl) rfl rfl (fun i hi => ?_)
              obtain rfl : i = 3 := by simpa using hi
              refine StepM.grows rfl rfl rfl rfl (z_app rfl rfl hda hal rfl rfl rfl rfl rfl (i := 0) rfl) (fun g30 hv30 => ?_)
              refine RunM.pure (i := 6) rfl rfl rfl rfl (fun _ => Still.build_1_1 (fun x0_0 x1_0 => .agg #[x0_0, x1_0]) rfl rfl rfl (fun _ => by kernel_rfl)) (by kernel_rfl) (by kernel_rfl) rfl ?_
              refine RunM.pick [10] (by kernel_rfl) rfl rfl (fun i hi => ?_)
              obtain rfl : i = 10 := by simpa using hi
              refine StepM.grows rfl rfl rfl rfl (z_app rfl rfl hdb hbl rfl rfl rfl rfl rfl (i := 2) rfl) (fun g37 hv37 => ?_)
              refine RunM.pure (i := 13) rfl rfl rfl rfl (fun _ => Still.build_1_1 (fun x0_0 x1_0 => .agg #[x0_0, x1_0]) rfl rfl rfl (fun _ => by kernel_rfl)) (by kernel_rfl) (by kernel_rfl) rfl ?_
              refine RunM.pick [16] (by kernel_rfl) rfl rfl (fun i hi => ?_)
              obtain rfl : i = 16 := by simpa using hi
              refine StepM.store rfl rfl rfl rfl rfl rfl (m := 5) rfl Tryz.sizeOf24 rfl rfl rfl (by simp) ?_
              refine RunM.done (by kernel_rfl) ?_
              show RunL _ _ _ [_] _ _
              refine RunL.does0 rfl rfl (Does.store rfl rfl rfl (i := 4) rfl Tryz.sizeOf24 rfl (rfl) rfl) (fun _ _ => ?_)
              refine RunL.nil ?_
              exact Ends.meetG (b13, b14, g30, g37) ⟨hv30, hv37⟩ (Fr.Sub.cons rfl (Fr.Sub.cons rfl (Fr.Sub.nil _))) (Fr.Sub.cons rfl (Fr.Sub.cons rfl (Fr.Sub.cons rfl (Fr.Sub.cons rfl (Fr.Sub.cons rfl (Fr.Sub.cons rfl (Fr.Sub.nil _))))))) (HSub.pick 5 rfl (HSub.pick 4 rfl (HSub.pick 1 rfl (HSub.pick 0 rfl (HSub.pick 2 rfl (HSub.pick 2 rfl (HSub.nil _)))))))
        ·
          refine StepM.alloc rfl rfl rfl rfl rfl Tryz.zeroValue24 (fun b14 => ?_)
          refine RunM.pick [0, 7, 14] (by kernel_rfl) rfl rfl (fun i hi => ?_)
          simp only [List.mem_cons, List.not_mem_nil, or_false] at hi
          rcases hi with rfl | rfl | rfl
          ·
            refine StepM.grows rfl rfl rfl rfl (Grows.empty rfl Tryz.underlying22 Tryz.sizeOf62 Tryz.zeroValue62) (fun b27 _ => ?_)
            refine RunM.pick [3, 7, 14] (by kernel_rfl) rfl rfl (fun i hi => ?_)
            simp only [List.mem_cons, List.not_mem_nil, or_false] at hi
            rcases hi with rfl | rfl | rfl
            ·
              refine StepM.grows rfl rfl rfl rfl (z_app rfl rfl hda hal rfl rfl rfl rfl rfl (i := 0) rfl) (fun g30 hv30 => ?_)
              refine RunM.pure (i := 6) rfl rfl rfl rfl (fun _ => Still.build_1_1 (fun x0_0 x1_0 => .agg #[x0_0, x1_0]) rfl rfl rfl (fun _ => by kernel_rfl)) (by kernel_rfl) (by kernel_rfl) rfl ?_
              refine RunM.pick [7, 14] (by kernel_rfl) rfl rfl (fun i hi => ?_)
              simp only [List.mem_cons, List.not_mem_nil, or_false] at hi
              rcases hi with rfl | rfl
              ·
                refine StepM.grows rfl rfl rfl rfl (Grows.empty rfl Tryz.underlying22 Tryz.sizeOf62 Tryz.zeroValue62) (fun b34 _ => ?_)
                refine RunM.pick [10, 14] (by kernel_rfl) rfl rfl (fun i hi => ?_)
                simp only [List.mem_cons, List.not_mem_nil, or_false] at hi
                rcases hi with rfl | rfl
                ·
                  refine StepM.grows rfl rfl rfl rfl (z_app rfl rfl hdb hbl rfl rfl rfl rfl rfl (i := 0) rfl) (fun g37 hv37 => ?_)
                  refine RunM.pure (i := 13) rfl rfl rfl rfl (fun _ => Still.build_1_1 (fun x0_0 x1_0 => .agg #[x0_0, x1_0]) rfl rfl rfl (fun _ => by kernel_rfl)) (by kernel_rfl) (by kernel_rfl) rfl ?_
                  refine RunM.pick [14] (by kernel_rfl) rfl rfl (fun i hi => ?_)
                  obtain rfl : i = 14 := by simpa using hi
                  refine StepM.alloc rfl rfl rfl rfl rfl Tryz.zeroValue24 (fun b13 => ?_)
                  refine RunM.pick [16] (by kernel_rfl) rfl rfl (fun i hi => ?_)
                  obtain rfl : i = 16 := by simpa using hi
                  refine StepM.store rfl rfl rfl rfl rfl rfl (m := 0) rfl Tryz.sizeOf24 rfl rfl rfl (by simp) ?_
                  refine RunM.done (by kernel_rfl) ?_
                  show RunL _ _ _ [_] _ _
                  refine RunL.does0 rfl rfl (Does.store rfl rfl rfl (i := 5) rfl Tryz.sizeOf24 rfl (rfl) rfl) (fun _ _ => ?_)
                  refine RunL.nil ?_
                  exact Ends.meetG (b13, b14, g30, g37) ⟨hv30, hv37⟩ (Fr.Sub.cons rfl (Fr.Sub.cons rfl (Fr.Sub.nil _))) (Fr.Sub.cons rfl (Fr.Sub.cons rfl (Fr.Sub.cons rfl (Fr.Sub.cons rfl (Fr.Sub.cons rfl (Fr.Sub.cons rfl (Fr.Sub.nil _))))))) (HSub.pick 0 rfl (HSub.pick 4 rfl (HSub.pick 2 rfl (HSub.pick 0 rfl (HSub.pick 2 rfl (HSub.pick 2 rfl (HSub.nil _)))))))
                ·
                  refine StepM.alloc rfl rfl rfl rfl rfl Tryz.zeroValue24 (fun b13 => ?_)
                  refine RunM.pick [10] (by kernel_rfl) rfl rfl (fun i hi => ?_)
                  obtain rfl : i = 10 := by simpa using hi
                  refine StepM.grows rfl rfl rfl rfl (z_app rfl rfl hdb hbl rfl rfl rfl rfl rfl (i := 1) rfl) (fun g37 hv37 => ?_)
                  refine RunM.pure (i := 13) rfl rfl rfl rfl (fun _ => Still.build_1_1 (fun x0_0 x1_0 => .agg #[x0_0, x1_0]) rfl rfl rfl (fun _ => by kernel_rfl)) (by kernel_rfl) (by kernel_rfl) rfl ?_
                  refine RunM.pick [16] (by kernel_rfl) rfl rfl (fun i hi => ?_)
                  obtain rfl : i = 16 := by simpa using hi
                  refine StepM.store rfl rfl rfl rfl rfl rfl (m := 1) rfl Tryz.sizeOf24 rfl rfl rfl (by simp) ?_
                  refine RunM.done (by kernel_rfl) ?_
                  show RunL _ _ _ [_] _ _
                  refine RunL.does0 rfl rfl (Does.store rfl rfl rfl (i := 5) rfl Tryz.sizeOf24 rfl (rfl) rfl) (fun _ _ => ?_)
                  refine RunL.nil ?_
                  exact Ends.meetG (b13, b14, g30, g37) ⟨hv30, hv37⟩ (Fr.Sub.cons rfl (Fr.Sub.cons rfl (Fr.Sub.nil _))) (Fr.Sub.cons rfl (Fr.Sub.cons rfl (Fr.Sub.cons rfl (Fr.Sub.cons rfl (Fr.Sub.cons rfl (Fr.Sub.cons rfl (Fr.Sub.nil _))))))) (HSub.pick 1 rfl (HSub.pick 4 rfl (HSub.pick 2 rfl (HSub.pick 0 rfl (HSub.pick 2 rfl (HSub.pick 2 rfl (HSub.nil _)))))))
              ·
                refine StepM.alloc rfl rfl rfl rfl rfl Tryz.zeroValue24 (fun b13 => ?_)
                refine RunM.pick [7] (by kernel_rfl) rfl rfl (fun i hi => ?_)
                obtain rfl : i = 7 := by simpa using hi
                refine StepM.grows rfl rfl rfl rfl (Grows.empty rfl Tryz.underlying22 Tryz.sizeOf62 Tryz.zeroValue62) (fun b34 _ => ?_)
                refine RunM.pick [10] (by kernel_rfl) rfl rfl (fun i hi => ?_)
                obtain rfl : i = 10 := by simpa using hi
                refine StepM.grows rfl rfl rfl rfl (z_app rfl rfl hdb hbl rfl rfl rfl rfl rfl (i := 0) rfl) (fun g37 hv37 => ?_)
                refine RunM.pure (i := 13) rfl rfl rfl rfl (fun _ => Still.build_1_1 (fun x0_0 x1_0 => .agg #[x0_0, x1_0]) rfl rfl rfl (fun _ => by kernel_rfl)) (by kernel_rfl) (by kernel_rfl) rfl ?_
                refine RunM.pick [16] (by kernel_rfl) rfl rfl (fun i hi => ?_)
                obtain rfl : i = 16 := by simpa using hi
                refine StepM.store rfl rfl rfl rfl rfl rfl (m := 2) rfl Tryz.sizeOf24 rfl rfl rfl (by simp) ?_
                refine RunM.done (by kernel_rfl) ?_
                show RunL _ _ _ [_] _ _
                refine RunL.does0 rfl rfl (Does.store rfl rfl rfl (i := 5) rfl Tryz.sizeOf24 rfl (rfl) rfl) (fun _ _ => ?_)
                refine RunL.nil ?_
                exact Ends.meetG (b13, b14, g30, g37) ⟨hv30, hv37⟩ (Fr.Sub.cons rfl (Fr.Sub.cons rfl (Fr.Sub.nil _))) (Fr.Sub.cons rfl (Fr.Sub.cons rfl (Fr.Sub.cons rfl (Fr.Sub.cons rfl (Fr.Sub.cons rfl (Fr.Sub.cons rfl (Fr.Sub.nil _))))))) (HSub.pick 2 rfl (HSub.pick 4 rfl (HSub.pick 2 rfl (HSub.pick 0 rfl (HSub.pick 2 rfl (HSub.pick 2 rfl (HSub.nil _)))))))
            ·
              refine StepM.grows rfl rfl rfl rfl (Grows.empty rfl Tryz.underlying22 Tryz.sizeOf62 Tryz.zeroValue62) (fun b34 _ => ?_)
              refine RunM.pick [3, 14] (by kernel_rfl) rfl rfl (fun i hi => ?_)
              simp only [List.mem_cons, List.not_mem_nil, or_false] at hi
              rcases hi with rfl | rfl
              ·
                refine StepM.grows rfl rfl rfl rfl (z_app rfl rfl hda hal rfl rfl rfl rfl rfl (i := 1) rfl) (fun g30 hv30 => ?_)
                refine RunM.pure (i := 6) rfl rfl rfl rfl (fun _ => Still.build_1_1 (fun x0_0 x1_0 => .agg #[x0_0, x1_0]) rfl rfl rfl (fun _ => by kernel_rfl)) (by kernel_rfl) (by kernel_rfl) rfl ?_
                refine RunM.pick [10, 14] (by kernel_rfl) rfl rfl (fun i hi => ?_)
                simp only [List.mem_cons, List.not_mem_nil, or_false] at hi
                rcases hi with rfl | rfl
                ·
                  refine StepM.grows rfl rfl rfl rfl (z_app rfl rfl hdb hbl rfl rfl rfl rfl rfl (i := 1) rfl) (fun g37 hv37 => ?_)
                  refine RunM.pure (i := 13) rfl rfl rfl rfl (fun _ => Still.build_1_1 (fun x0_0 x1_0 => .agg #[x0_0, x1_0]) rfl rfl rfl (fun _ => by kernel_rfl)) (by kernel_rfl) (by kernel_rfl) rfl ?_
                  refine RunM.pick [14] (by kernel_rfl) rfl rfl (fun i hi => ?_)
                  obtain rfl : i = 14 := by simpa using hi
                  refine StepM.alloc rfl rfl rfl rfl rfl Tryz.zeroValue24 (fun b13 => ?_)
                  refine RunM.pick [16] (by kernel_rfl) rfl rfl (fun i hi => ?_)
                  obtain rfl : i = 16 := by simpa using hi
                  refine StepM.store rfl rfl rfl rfl rfl rfl (m := 0) rfl Tryz.sizeOf24 rfl rfl rfl (by simp) ?_
                  refine RunM.done (by kernel_rfl) ?_
                  show RunL _ _ _ [_] _ _
                  refine RunL.does0 rfl rfl (Does.store rfl rfl rfl (i := 5) rfl Tryz.sizeOf24 rfl (rfl) rfl) (fun _ _ => ?_)
                  refine RunL.nil ?_
                  exact Ends.meetG (b13, b14, g30, g37) ⟨hv30, hv37⟩ (Fr.Sub.cons rfl (Fr.Sub.cons rfl (Fr.Sub.nil _))) (Fr.Sub.cons rfl (Fr.Sub.cons rfl (Fr.Sub.cons rfl (Fr.Sub.cons rfl (Fr.Sub.cons rfl (Fr.Sub.cons rfl (Fr.Sub.nil _))))))) (HSub.pick 0 rfl (HSub.pick 4 rfl (HSub.pick 1 rfl (HSub.pick 0 rfl (HSub.pick 2 rfl (HSub.pick 2 rfl (HSub.nil _)))))))
                ·
                  refine StepM.alloc rfl rfl rfl rfl rfl Tryz.zeroValue24 (fun b13 => ?_)
                  refine RunM.pick [10] (by kernel_rfl) rfl rfl (fun i hi => ?_)
                  obtain rfl : i = 10 := by simpa using hi
                  refine StepM.grows rfl rfl rfl rfl (z_app rfl rfl hdb hbl rfl rfl rfl rfl rfl (i := 2) rfl) (fun g37 hv37 => ?_)
                  refine RunM.pure (i := 13) rfl rfl rfl rfl (fun _ => Still.build_1_1 (fun x0_0 x1_0 => .agg #[x0_0, x1_0]) rfl rfl rfl (fun _ => by kernel_rfl)) (by kernel_rfl) (by kernel_rfl) rfl ?_
                  refine RunM.pick [16] (by kernel_rfl) rfl rfl (fun i hi => ?_)
                  obtain rfl : i = 16 := by simpa using hi
                  refine StepM.store rfl rfl rfl rfl rfl rfl (m := 1) rfl Tryz.sizeOf24 rfl rfl rfl (by simp) ?_
                  refine RunM.done (by kernel_rfl) ?_
                  show RunL _ _ _ [_] _ _
                  refine RunL.does0 rfl rfl (Does.store rfl rfl rfl (i := 5) rfl Tryz.sizeOf24 rfl (rfl) rfl) (fun _ _ => ?_)
                  refine RunL.nil ?_
                  exact Ends.meetG (b13, b14, g30, g37) ⟨hv30, hv37⟩ (Fr.Sub.cons rfl (Fr.Sub.cons rfl (Fr.Sub.nil _))) (Fr.Sub.cons rfl (Fr.Sub.cons rfl (Fr.Sub.cons rfl (Fr.Sub.cons rfl (Fr.Sub.cons rfl (Fr.Sub.cons rfl (Fr.Sub.nil _))))))) (HSub.pick 1 rfl (HSub.pick 4 rfl (HSub.pick 1 rfl (HSub.pick 0 rfl (HSub.pick 2 rfl (HSub.pick 2 rfl (HSub.nil _)))))))
              ·
                refine StepM.alloc rfl rfl rfl rfl rfl Tryz.zeroValue24 (fun b13 => ?_)
                refine RunM.pick [3] (by kernel_rfl) rfl rfl (fun i hi => ?_)
                obtain rfl : i = 3 := by simpa using hi
                refine StepM.grows rfl rfl rfl rfl (z_app rfl rfl hda hal rfl rfl rfl rfl rfl (i := 2) rfl) (fun g30 hv30 => ?_)
                refine RunM.pure (i := 6) rfl rfl rfl rfl (fun _ => Still.build_1_1 (fun x0_0 x1_0 => .agg #[x0_0, x1_0]) rfl rfl rfl (fun _ => by kernel_rfl)) (by kernel_rfl) (by kernel_rfl) rfl ?_
                refine RunM.pick [10] (by kernel_rfl) rfl rfl (fun i hi => ?_)
                obtain rfl : i = 10 := by simpa using hi
                refine StepM.grows rfl rfl rfl rfl (z_app rfl rfl hdb hbl rfl rfl rfl rfl rfl (i := 2) rfl) (fun g37 hv37 => ?_)
                refine RunM.pure (i := 13) rfl rfl rfl rfl (fun _ => Still.build_1_1 (fun x0_0 x1_0 => .agg #[x0_0, x1_0]) rfl rfl rfl (fun _ => by kernel_rfl)) (by kernel_rfl) (by kernel_rfl) rfl ?_
                refine RunM.pick [16] (by kernel_rfl) rfl rfl (fun i hi => ?_)
                obtain rfl : i = 16 := by simpa using hi
                refine StepM.store rfl rfl rfl rfl rfl rfl (m := 2) rfl Tryz.sizeOf24 rfl rfl rfl (by simp) ?_
                refine RunM.done (by kernel_rfl) ?_
                show RunL _ _ _ [_] _ _
                refine RunL.does0 rfl rfl (Does.store rfl rfl rfl (i := 5) rfl Tryz.sizeOf24 rfl (rfl) rfl) (fun _ _ => ?_)
                refine RunL.nil ?_
                exact Ends.meetG (b13, b14, g30, g37) ⟨hv30, hv37⟩ (Fr.Sub.cons rfl (Fr.Sub.cons rfl (Fr.Sub.nil _))) (Fr.Sub.cons rfl (Fr.Sub.cons rfl (Fr.Sub.cons rfl (Fr.Sub.cons rfl (Fr.Sub.cons rfl (Fr.Sub.cons rfl (Fr.Sub.nil _))))))) (HSub.pick 2 rfl (HSub.pick 4 rfl (HSub.pick 1 rfl (HSub.pick 0 rfl (HSub.pick 2 rfl (HSub.pick 2 rfl (HSub.nil _)))))))
            ·
              refine StepM.alloc rfl rfl rfl rfl rfl Tryz.zeroValue24 (fun b13 => ?_)
              refine RunM.pick [3, 7] (by kernel_rfl) rfl rfl (fun i hi => ?_)
              simp only [List.mem_cons, List.not_mem_nil, or_false] at hi
              rcases hi with rfl | rfl
              ·
                refine StepM.grows rfl rfl rfl rfl (z_app rfl rfl hda hal rfl rfl rfl rfl rfl (i := 1) rfl) (fun g30 hv30 => ?_)
                refine RunM.pure (i := 6) rfl rfl rfl rfl (fun _ => Still.build_1_1 (fun x0_0 x1_0 => .agg #[x0_0, x1_0]) rfl rfl rfl (fun _ => by kernel_rfl)) (by kernel_rfl) (by kernel_rfl) rfl ?_
                refine RunM.pick [7] (by kernel_rfl) rfl rfl (fun i hi => ?_)
                obtain rfl : i = 7 := by simpa using hi
                refine StepM.grows rfl rfl rfl rfl (Grows.empty rfl Tryz.underlying22 Tryz.sizeOf62 Tryz.zeroValue62) (fun b34 _ => ?_)
                refine RunM.pick [10] (by kernel_rfl) rfl rfl (fun i hi => ?_)
                obtain rfl : i = 10 := by simpa using hi
                refine StepM.grows rfl rfl rfl rfl (z_app rfl rfl hdb hbl rfl rfl rfl rfl rfl (i := 0) rfl) (fun g37 hv37 => ?_)
                refine RunM.pure (i := 13) rfl rfl rfl rfl (fun _ => Still.build_1_1 (fun x0_0 x1_0 => .agg #[x0_0, x1_0]) rfl rfl rfl (fun _ => by kernel_rfl)) (by kernel_rfl) (by kernel_rfl) rfl ?_
                refine RunM.pick [16] (by kernel_rfl) rfl rfl (fun i hi => ?_)
                obtain rfl : i = 16 := by simpa using hi
                refine StepM.store rfl rfl rfl rfl rfl rfl (m := 3) rfl Tryz.sizeOf24 rfl rfl rfl (by simp) ?_
                refine RunM.done (by kernel_rfl) ?_
                show RunL _ _ _ [_] _ _
                refine RunL.does0 rfl rfl (Does.store rfl rfl rfl (i := 5) rfl Tryz.sizeOf24 rfl (rfl) rfl) (fun _ _ => ?_)
                refine RunL.nil ?_
                exact Ends.meetG (b13, b14, g30, g37) ⟨hv30, hv37⟩ (Fr.Sub.cons rfl (Fr.Sub.cons rfl (Fr.Sub.nil _))) (Fr.Sub.cons rfl (Fr.Sub.cons rfl (Fr.Sub.cons rfl (Fr.Sub.cons rfl (Fr.Sub.cons rfl (Fr.Sub.cons rfl (Fr.Sub.nil _))))))) (HSub.pick 3 rfl (HSub.pick 4 rfl (HSub.pick 2 rfl (HSub.pick 0 rfl (HSub.pick 2 rfl (HSub.pick 2 rfl (HSub.nil _)))))))
              ·
                refine StepM.grows rfl rfl rfl rfl (Grows.empty rfl Tryz.underlying22 Tryz.sizeOf62 Tryz.zeroValue62) (fun b34 _ => ?_)
                refine RunM.pick [3] (by kernel_rfl) rfl rfl (fun i hi => ?_)
                obtain rfl : i = 3 := by simpa using hi
                refine StepM.grows rfl rfl rfl rfl (z_app rfl rfl hda hal rfl rfl rfl rfl rfl (i := 2) rfl) (fun g30 hv30 => ?_)
                refine RunM.pure (i := 6) rfl rfl rfl rfl (fun _ => Still.build_1_1 (fun x0_0 x1_0 => .agg #[x0_0, x1_0]) rfl rfl rfl (fun _ => by kernel_rfl)) (by kernel_rfl) (by kernel_rfl) rfl ?_
                refine RunM.pick [10] (by kernel_rfl) rfl rfl (fun i hi => ?_)
                obtain rfl : i = 10 := by simpa using hi
                refine StepM.grows rfl rfl rfl rfl (z_app rfl rfl hdb hbl rfl rfl rfl rfl rfl (i := 1) rfl) (fun g37 hv37 => ?_)
                refine RunM.pure (i := 13) rfl rfl rfl rfl (fun _ => Still.build_1_1 (fun x0_0 x1_0 => .agg #[x0_0, x1_0]) rfl rfl rfl (fun _ => by kernel_rfl)) (by kernel_rfl) (by kernel_rfl) rfl ?_
                refine RunM.pick [16] (by kernel_rfl) rfl rfl (fun i hi => ?_)
                obtain rfl : i = 16 := by simpa using hi
                refine StepM.store rfl rfl rfl rfl rfl rfl (m := 3) rfl Tryz.sizeOf24 rfl rfl rfl (by simp) ?_
                refine RunM.done (by kernel_rfl) ?_
                show RunL _ _ _ [_] _ _
                refine RunL.does0 rfl rfl (Does.store rfl rfl rfl (i := 5) rfl Tryz.sizeOf24 rfl (rfl) rfl) (fun _ _ => ?_)
                refine RunL.nil ?_
                exact Ends.meetG (b13, b14, g30, g37) ⟨hv30, hv37⟩ (Fr.Sub.cons rfl (Fr.Sub.cons rfl (Fr.Sub.nil _))) (Fr.Sub.cons rfl (Fr.Sub.cons rfl (Fr.Sub.cons rfl (Fr.Sub.cons rfl (Fr.Sub.cons rfl (Fr.Sub.cons rfl (Fr.Sub.nil _))))))) (HSub.pick 3 rfl (HSub.pick 4 rfl (HSub.pick 1 rfl (HSub.pick 0 rfl (HSub.pick 2 rfl (HSub.pick 2 rfl (HSub.nil _)))))))
          ·
            refine StepM.grows rfl rfl rfl rfl (Grows.empty rfl Tryz.underlying22 Tryz.sizeOf62 Tryz.zeroValue62) (fun b34 _ => ?_)
            refine RunM.pick [0, 14] (by kernel_rfl) rfl rfl (fun i hi => ?_)
            simp only [List.mem_cons, List.not_mem_nil, or_false] at hi
            rcases hi with rfl | rfl
            ·
              refine StepM.grows rfl rfl rfl rfl (Grows.empty rfl Tryz.underlying22 Tryz.sizeOf62 Tryz.zeroValue62) (fun b27 _ => ?_)
              refine RunM.pick [3, 14] (by kernel_rfl) rfl rfl (fun i hi => ?_)
              simp only [List.mem_cons, List.not_mem_nil, or_false] at hi
              rcases hi with rfl | rfl
              ·
                refine StepM.grows rfl rfl rfl rfl (z_app rfl rfl hda hal rfl rfl rfl rfl rfl (i := 0) rfl) (fun g30 hv30 => ?_)
                refine RunM.pure (i := 6) rfl rfl rfl rfl (fun _ => Still.build_1_1 (fun x0_0 x1_0 => .agg #[x0_0, x1_0]) rfl rfl rfl (fun _ => by kernel_rfl)) (by kernel_rfl) (by kernel_rfl) rfl ?_
                refine RunM.pick [10, 14] (by kernel_rfl) rfl rfl (fun i hi => ?_)
                simp only [List.mem_cons, List.not_mem_nil, or_false] at hi
                rcases hi with rfl | rfl
                ·
                  refine StepM.grows rfl rfl rfl rfl (z_app rfl rfl hdb hbl rfl rfl rfl rfl rfl (i := 2) rfl) (fun g37 hv37 => ?_)
                  refine RunM.pure (i := 13) rfl rfl rfl rfl (fun _ => Still.build_1_1 (fun x0_0 x1_0 => .agg #[x0_0, x1_0]) rfl rfl rfl (fun _ => by kernel_rfl)) (by kernel_rfl) (by kernel_rfl) rfl ?_
                  refine RunM.pick [14] (by kernel_rfl) rfl rfl (fun i hi => ?_)
                  obtain rfl : i = 14 := by simpa using hi
                  refine StepM.alloc rfl rfl rfl rfl rfl Tryz.zeroValue24 (fun b13 => ?_)
                  refine RunM.pick [16] (by kernel_rfl) rfl rfl (fun i hi => ?_)
                  obtain rfl : i = 16 := by simpa using hi
                  refine StepM.store rfl rfl rfl rfl rfl rfl (m := 0) rfl Tryz.sizeOf24 rfl rfl rfl (by simp) ?_
                  refine RunM.done (by kernel_rfl) ?_
                  show RunL _ _ _ [_] _ _
                  refine RunL.does0 rfl rfl (Does.store rfl rfl rfl (i := 5) rfl Tryz.sizeOf24 rfl (rfl) rfl) (fun _ _ => ?_)
                  refine RunL.nil ?_
                  exact Ends.meetG (b13, b14, g30, g37) ⟨hv30, hv37⟩ (Fr.Sub.cons rfl (Fr.Sub.cons rfl (Fr.Sub.nil _))) (Fr.Sub.cons rfl (Fr.Sub.cons rfl (Fr.Sub.cons rfl (Fr.Sub.cons rfl (Fr.Sub.cons rfl (Fr.Sub.cons rfl (Fr.Sub.nil _))))))) (HSub.pick 0 rfl (HSub.pick 4 rfl (HSub.pick 1 rfl (HSub.pick 0 rfl (HSub.pick 2 rfl (HSub.pick 2 rfl (HSub.nil _)))))))
                ·
                  refine StepM.alloc rfl rfl rfl rfl rfl Tryz.zeroValue24 (fun b13 => ?_)
                  refine RunM.pick [10] (by kernel_rfl) rfl rfl (fun i hi => ?_)
                  obtain rfl : i = 10 := by simpa using hi
                  refine StepM.grows rfl rfl rfl rfl (z_app rfl rfl hdb hbl rfl rfl rfl rfl rfl (i := 3) rfl) (fun g37 hv37 => ?_)
                  refine RunM.pure (i := 13) rfl rfl rfl rfl (fun _ => Still.build_1_1 (fun x0_0 x1_0 => .agg #[x0_0, x1_0]) rfl rfl rfl (fun _ => by kernel_rfl)) (by kernel_rfl) (by kernel_rfl) rfl ?_
                  refine RunM.pick [16] (by kernel_rfl) rfl rfl (fun i hi => ?_)
                  obtain rfl : i = 16 := by simpa using hi
                  refine StepM.store rfl rfl rfl rfl rfl rfl (m := 1) rfl Tryz.sizeOf24 rfl rfl rfl (by simp) ?_
                  refine RunM.done (by kernel_rfl) ?_
                  show RunL _ _ _ [_] _ _
                  refine RunL.does0 rfl rfl (Does.store rfl rfl rfl (i := 5) rfl Tryz.sizeOf24 rfl (rfl) rfl) (fun _ _ => ?_)
                  refine RunL.nil ?_
                  exact Ends.meetG (b13, b14, g30, g37) ⟨hv30, hv37⟩ (Fr.Sub.cons rfl (Fr.Sub.cons rfl (Fr.Sub.nil _))) (Fr.Sub.cons rfl (Fr.Sub.cons rfl (Fr.Sub.cons rfl (Fr.Sub.cons rfl (Fr.Sub.cons rfl (Fr.Sub.cons rfl (Fr.Sub.nil _))))))) (HSub.pick 1 rfl (HSub.pick 4 rfl (HSub.pick 1 rfl (HSub.pick 0 rfl (HSub.pick 2 rfl (HSub.pick 2 rfl (HSub.nil _)))))))
              ·
                refine StepM.alloc rfl rfl rfl rfl rfl Tryz.zeroValue24 (fun b13 => ?_)
                refine RunM.pick [3] (by kernel_rfl) rfl rfl (fun i hi => ?_)
                obtain rfl : i = 3 := by simpa using hi
                refine StepM.grows rfl rfl rfl rfl (z_app rfl rfl hda hal rfl rfl rfl rfl rfl (i := 1) rfl) (fun g30 hv30 => ?_)
                refine RunM.pure (i := 6) rfl rfl rfl rfl (fun _ => Still.build_1_1 (fun x0_0 x1_0 => .agg #[x0_0, x1_0]) rfl rfl rfl (fun _ => by kernel_rfl)) (by kernel_rfl) (by kernel_rfl) rfl ?_
                refine RunM.pick [10] (by kernel_rfl) rfl rfl (fun i hi => ?_)
                obtain rfl : i = 10 := by simpa using hi
                refine StepM.grows rfl rfl rfl rfl (z_app rfl rfl hdb hbl rfl rfl rfl rfl rfl (i := 3) rfl) (fun g37 hv37 => ?_)
                refine RunM.pure (i := 13) rfl rfl rfl rfl (fun _ => Still.build_1_1 (fun x0_0 x1_0 => .agg #[x0_0, x1_0]) rfl rfl rfl (fun _ => by kernel_rfl)) (by kernel_rfl) (by kernel_rfl) rfl ?_
                refine RunM.pick [16] (by kernel_rfl) rfl rfl (fun i hi => ?_)
                obtain rfl : i = 16 := by simpa using hi
                refine StepM.store rfl rfl rfl rfl rfl rfl (m := 2) rfl Tryz.sizeOf24 rfl rfl rfl (by simp) ?_
                refine RunM.done (by kernel_rfl) ?_
                show RunL _ _ _ [_] _ _
                refine RunL.does0 rfl rfl (Does.store rfl rfl rfl (i := 5) rfl Tryz.sizeOf24 rfl (rfl) rfl) (fun _ _ => ?_)
                refine RunL.nil ?_
                exact Ends.meetG (b13, b14, g30, g37) ⟨hv30, hv37⟩ (Fr.Sub.cons rfl (Fr.Sub.cons rfl (Fr.Sub.nil _))) (Fr.Sub.cons rfl (Fr.Sub.cons rfl (Fr.Sub.cons rfl (Fr.Sub.cons rfl (Fr.Sub.cons rfl (Fr.Sub.cons rfl (Fr.Sub.nil _))))))) (HSub.pick 2 rfl (HSub.pick 4 rfl (HSub.pick 1 rfl (HSub.pick 0 rfl (HSub.pick 2 rfl (HSub.pick 2 rfl (HSub.nil _)))))))
            ·
              refine StepM.alloc rfl rfl rfl rfl rfl Tryz.zeroValue24 (fun b13 => ?_)
              refine RunM.pick [0] (by kernel_rfl) rfl rfl (fun i hi => ?_)
              obtain rfl : i = 0 := by simpa using hi
              refine StepM.grows rfl rfl rfl rfl (Grows.empty rfl Tryz.underlying22 Tryz.sizeOf62 Tryz.zeroValue62) (fun b27 _ => ?_)
              refine RunM.pick [3] (by kernel_rfl) rfl rfl (fun i hi => ?_)
              obtain rfl : i = 3 := by simpa using hi
              refine StepM.grows rfl rfl rfl rfl (z_app rfl rfl hda hal rfl rfl rfl rfl rfl (i := 0) rfl) (fun g30 hv30 => ?_)
              refine RunM.pure (i := 6) rfl rfl rfl rfl (fun _ => Still.build_1_1 (fun x0_0 x1_0 => .agg #[x0_0, x1_0]) rfl rfl rfl (fun _ => by kernel_rfl)) (by kernel_rfl) (by kernel_rfl) rfl ?_
              refine RunM.pick [10] (by kernel_rfl) rfl rfl (fun i hi => ?_)
              obtain rfl : i = 10 := by simpa using hi
              refine StepM.grows rfl rfl rfl rfl (z_app rfl rfl hdb hbl rfl rfl rfl rfl rfl (i := 3) rfl) (fun g37 hv37 => ?_)
              refine RunM.pure (i := 13) rfl rfl rfl rfl (fun _ => Still.build_1_1 (fun x0_0 x1_0 => .agg #[x0_0, x1_0]) rfl rfl rfl (fun _ => by kernel_rfl)) (by kernel_rfl) (by kernel_rfl) rfl ?_
              refine RunM.pick [16] (by kernel_rfl) rfl rfl (fun i hi => ?_)
              obtain rfl : i = 16 := by simpa using hi
              refine StepM.store rfl rfl rfl rfl rfl rfl (m := 3) rfl Tryz.sizeOf24 rfl rfl rfl (by simp) ?_
              refine RunM.done (by kernel_rfl) ?_
              show RunL _ _ _ [_] _ _
              refine RunL.does0 rfl rfl (Does.store rfl rfl rfl (i := 5) rfl Tryz.sizeOf24 rfl (rfl) rfl) (fun _ _ => ?_)
              refine RunL.nil ?_
              exact Ends.meetG (b13, b14, g30, g37) ⟨hv30, hv37⟩ (Fr.Sub.cons rfl (Fr.Sub.cons rfl (Fr.Sub.nil _))) (Fr.Sub.cons rfl (Fr.Sub.cons rfl (Fr.Sub.cons rfl (Fr.Sub.cons rfl (Fr.Sub.cons rfl (Fr.Sub.cons rfl (Fr.Sub.nil _))))))) (HSub.pick 3 rfl (HSub.pick 4 rfl (HSub.pick 1 rfl (HSub.pick 0 rfl (HSub.pick 2 rfl (HSub.pick 2 rfl (HSub.nil _)))))))
          ·
            refine StepM.alloc rfl rfl rfl rfl rfl Tryz.zeroValue24 (fun b13 => ?_)
            refine RunM.pick [0, 7] (by kernel_rfl) rfl rfl (fun i hi => ?_)
            simp only [List.mem_cons, List.not_mem_nil, or_false] at hi
            rcases hi with rfl | rfl
            ·
              refine StepM.grows rfl rfl rfl rfl (Grows.empty rfl Tryz.underlying22 Tryz.sizeOf62 Tryz.zeroValue62) (fun b27 _ => ?_)
              refine RunM.pick [3, 7] (by kernel_rfl) rfl rfl (fun i hi => ?_)
              simp only [List.mem_cons, List.not_mem_nil, or_false] at hi
              rcases hi with rfl | rfl
              ·
                refine StepM.grows rfl rfl rfl rfl (z_app rfl rfl hda hal rfl rfl rfl rfl rfl (i := 0) rfl) (fun g30 hv30 => ?_)
                refine RunM.pure (i := 6) rfl rfl rfl rfl (fun _ => Still.build_1_1 (fun x0_0 x1_0 => .agg #[x0_0, x1_0]) rfl rfl rfl (fun _ => by kernel_rfl)) (by kernel_rfl) (by kernel_rfl) rfl ?_
                refine RunM.pick [7] (by kernel_rfl) rfl rfl (fun i hi => ?_)
                obtain rfl : i = 7 := by simpa using hi
                refine StepM.grows rfl rfl rfl rfl (Grows.empty rfl Tryz.underlying22 Tryz.sizeOf62 Tryz.zeroValue62) (fun b34 _ => ?_)
                refine RunM.pick [10] (by kernel_rfl) rfl rfl (fun i hi => ?_)
                obtain rfl : i = 10 := by simpa using hi
                refine StepM.grows rfl rfl rfl rfl (z_app rfl rfl hdb hbl rfl rfl rfl rfl rfl (i := 0) rfl) (fun g37 hv37 => ?_)
                refine RunM.pure (i := 13) rfl rfl rfl rfl (fun _ => Still.build_1_1 (fun x0_0 x1_0 => .agg #[x0_0, x1_0]) rfl rfl rfl (fun _ => by kernel_rfl)) (by kernel_rfl) (by kernel_rfl) rfl ?_
                refine RunM.pick [16] (by kernel_rfl) rfl rfl (fun i hi => ?_)
                obtain rfl : i = 16 := by simpa using hi
                refine StepM.store rfl rfl rfl rfl rfl rfl (m := 4) rfl Tryz.sizeOf24 rfl rfl rfl (by simp) ?_
                refine RunM.done (by kernel_rfl) ?_
                show RunL _ _ _ [_] _ _
                refine RunL.does0 rfl rfl (Does.store rfl rfl rfl (i := 5) rfl Tryz.sizeOf24 rfl (rfl) rfl) (fun _ _ => ?_)
                refine RunL.nil ?_
                exact Ends.meetG (b13, b14, g30, g37) ⟨hv30, hv37⟩ (Fr.Sub.cons rfl (Fr.Sub.cons rfl (Fr.Sub.nil _))) (Fr.Sub.cons rfl (Fr.Sub.cons rfl (Fr.Sub.cons rfl (Fr.Sub.cons rfl (Fr.Sub.cons rfl (Fr.Sub.cons rfl (Fr.Sub.nil _))))))) (HSub.pick 4 rfl (HSub.pick 4 rfl (HSub.pick 2 rfl (HSub.pick 0 rfl (HSub.pick 2 rfl (HSub.pick 2 rfl (HSub.nil _)))))))
              ·
                refine StepM.grows rfl rfl rfl rfl (Grows.empty rfl Tryz.underlying22 Tryz.sizeOf62 Tryz.zeroValue62) (fun b34 _ => ?_)
                refine RunM.pick [3] (by kernel_rfl) rfl rfl (fun i hi => ?_)
                obtain rfl : i = 3 := by simpa using hi
                refine StepM.grows rfl rfl rfl rfl (z_app rfl rfl hda hal rfl rfl rfl rfl rfl (i := 1) rfl) (fun g30 hv30 => ?_)
                refine RunM.pure (i := 6) rfl rfl rfl rfl (fun _ => Still.build_1_1 (fun x0_0 x1_0 => .agg #[x0_0, x1_0]) rfl rfl rfl (fun _ => by kernel_rfl)) (by kernel_rfl) (by kernel_rfl) rfl ?_
                refine RunM.pick [10] (by kernel_rfl) rfl rfl (fun i hi => ?_)
                obtain rfl : i = 10 := by simpa using hi
                refine StepM.grows rfl rfl rfl rfl (z_app rfl rfl hdb hbl rfl rfl rfl rfl rfl (i := 1) rfl) (fun g37 hv37 => ?_)
                refine RunM.pure (i := 13) rfl rfl rfl rfl (fun _ => Still.build_1_1 (fun x0_0 x1_0 => .agg #[x0_0, x1_0]) rfl rfl rfl (fun _ => by kernel_rfl)) (by kernel_rfl) (by kernel_rfl) rfl ?_
                refine RunM.pick [16] (by kernel_rfl) rfl rfl (fun i hi => ?_)
                obtain rfl : i = 16 := by simpa using hi
                refine StepM.store rfl rfl rfl rfl rfl rfl (m := 4) rfl Tryz.sizeOf24 rfl rfl rfl (by simp) ?_
                refine RunM.done (by kernel_rfl) ?_
                show RunL _ _ _ [_] _ _
                refine RunL.does0 rfl rfl (Does.store rfl rfl rfl (i := 5) rfl Tryz.sizeOf24 rfl (rfl) rfl) (fun _ _ => ?_)
                refine RunL.nil ?_
                exact Ends.meetG (b13, b14, g30, g37) ⟨hv30, hv37⟩ (Fr.Sub.cons rfl (Fr.Sub.cons rfl (Fr.Sub.nil _))) (Fr.Sub.cons rfl (Fr.Sub.cons rfl (Fr.Sub.cons rfl (Fr.Sub.cons rfl (Fr.Sub.cons rfl (Fr.Sub.cons rfl (Fr.Sub.nil _))))))) (HSub.pick 4 rfl (HSub.pick 4 rfl (HSub.pick 1 rfl (HSub.pick 0 rfl (HSub.pick 2 rfl (HSub.pick 2 rfl (HSub.nil _)))))))
            ·
              refine StepM.grows rfl rfl rfl rfl (Grows.empty rfl Tryz.underlying22 Tryz.sizeOf62 Tryz.zeroValue62) (fun b34 _ => ?_)
              refine RunM.pick [0] (by kernel_rfl) rfl rfl (fun i hi => ?_)
              obtain rfl : i = 0 := by simpa using hi
              refine StepM.grows rfl rfl rfl rfl (Grows.empty rfl Tryz.underlying22 Tryz.sizeOf62 Tryz.zeroValue62) (fun b27 _ => ?_)
              refine RunM.pick [3] (by kernel_rfl) rfl rfl (fun i hi => ?_)
              obtain rfl : i = 3 := by simpa using hi
              refine StepM.grows rfl rfl rfl rfl (z_app rfl rfl hda hal rfl rfl rfl rfl rfl (i := 0) rfl) (fun g30 hv30 => ?_)
              refine RunM.pure (i := 6) rfl rfl rfl rfl (fun _ => Still.build_1_1 (fun x0_0 x1_0 => .agg #[x0_0, x1_0]) rfl rfl rfl (fun _ => by kernel_rfl)) (by kernel_rfl) (by kernel_rfl) rfl ?_
              refine RunM.pick [10] (by kernel_rfl) rfl rfl (fun i hi => ?_)
              obtain rfl : i = 10 := by simpa using hi
              refine StepM.grows rfl rfl rfl rfl (z_app rfl rfl hdb hbl rfl rfl rfl rfl rfl (i := 2) rfl) (fun g37 hv37 => ?_)
              refine RunM.pure (i := 13) rfl rfl rfl rfl (fun _ => Still.build_1_1 (fun x0_0 x1_0 => .agg #[x0_0, x1_0]) rfl rfl rfl (fun _ => by kernel_rfl)) (by kernel_rfl) (by kernel_rfl) rfl ?_
              refine RunM.pick [16] (by kernel_rfl) rfl rfl (fun i hi => ?_)
              obtain rfl : i = 16 := by simpa using hi
              refine StepM.store rfl rfl rfl rfl rfl rfl (m := 4) rfl Tryz.sizeOf24 rfl rfl rfl (by simp) ?_
              refine RunM.done (by kernel_rfl) ?_
              show RunL _ _ _ [_] _ _
              refine RunL.does0 rfl rfl (Does.store rfl rfl rfl (i := 5) rfl Tryz.sizeOf24 rfl (rfl) rfl) (fun _ _ => ?_)
              refine RunL.nil ?_
              exact Ends.meetG (b13, b14, g30, g37) ⟨hv30, hv37⟩ (Fr.Sub.cons rfl (Fr.Sub.cons rfl (Fr.Sub.nil _))) (Fr.Sub.cons rfl (Fr.Sub.cons rfl (Fr.Sub.cons rfl (Fr.Sub.cons rfl (Fr.Sub.cons rfl (Fr.Sub.cons rfl (Fr.Sub.nil _))))))) (HSub.pick 4 rfl (HSub.pick 4 rfl (HSub.pick 1 rfl (HSub.pick 0 rfl (HSub.pick 2 rfl (HSub.pick 2 rfl (HSub.nil _)))))))
      · rintro ⟨p, q, ⟨ub, uc⟩, ⟨vb, vc⟩⟩ ⟨hu, hv⟩
        have hub : 0 < a.cross.length → ub = some (vaddr (.slice ub a.cross.length uc)) := by obtain ⟨_, _, e, h⟩ := hu; injection e with e1 e2 e3; subst e1; subst e3; exact h
        have hvb : 0 < b.cross.length → vb = some (vaddr (.slice vb b.cross.length vc)) := by obtain ⟨_, _, e, h⟩ := hv; injection e with e1 e2 e3; subst e1; subst e3; exact h
        refine Ends.then ?_
        refine RunC.seq ?_
        refine RunC.region ?_
        refine RunL.grows rfl rfl rfl (Grows.empty rfl Tryz.underlying36 Tryz.sizeOf3 Tryz.zeroValue3) (fun b41 _ => ?_)
        refine RunL.still rfl rfl rfl (Still.move rfl rfl) ?_
        refine RunL.does rfl rfl rfl (Does.appendAny (n' := xs.length) (xs' := (ints xs)) (news := (ints xs)) rfl rfl rfl rfl (fun h0 => hx.base h0) (i := 0) rfl Tryz.underlying36 (by kernel_rfl : Tryz.prog.info? 3 = some Tryz.t3) (by kernel_rfl : (_ : Option _) = some (some (.int .i64 0), 1, 8)) rfl rfl (fun w hs => hx.cell.base0 hs) (by rw [length_ints, Nat.mul_one]) (ints_one _) (by omega) (by omega) (Nat.zero_add _) (rfl)) (fun v43 hv43 => ?_)
        refine RunL.grows rfl rfl rfl (Grows.empty rfl Tryz.underlying36 Tryz.sizeOf3 Tryz.zeroValue3) (fun b44 _ => ?_)
        refine RunL.still rfl rfl rfl (Still.move rfl rfl) ?_
        refine RunL.does rfl rfl rfl (Does.appendAny (n' := ys.length) (xs' := (ints ys)) (news := (ints ys)) rfl rfl rfl rfl (fun h0 => hy.base h0) (i := 0) rfl Tryz.underlying36 (by kernel_rfl : Tryz.prog.info? 3 = some Tryz.t3) (by kernel_rfl : (_ : Option _) = some (some (.int .i64 0), 1, 8)) rfl rfl (fun w hs => hy.cell.base0 hs) (by rw [length_ints, Nat.mul_one]) (ints_one _) (by omega) (by omega) (Nat.zero_add _) (rfl)) (fun v46 hv46 => ?_)
        refine RunL.still rfl rfl rfl (Still.assign rfl rfl) ?_
        refine RunL.still rfl rfl rfl (Still.assign rfl rfl) ?_
        refine RunL.nil ?_
        refine Ends.then ?_
        refine RunC.seq ?_
        refine RunC.region ?_
        refine RunL.still rfl rfl rfl (Still.loads rfl rfl Tryz.isAgg24 Tryz.sizeOf24 (vs := [_, _]) rfl (fun _ hs => cells_nth (hs.at (i := 7) rfl) ⟨rfl, ⟨rfl, trivial⟩⟩)) ?_
        refine RunL.grows rfl rfl rfl (Grows.call (vs := #[_]) rfl rfl Tryz.call20 (fun w hs => gives_any (dg_Check ba A ca a w (hda.sym hs)))) (fun _ _ => ?_)
        refine RunL.nil ?_
        refine Ends.then ?_
        refine RunC.seq ?_
        refine RunC.region ?_
        refine RunL.still rfl rfl rfl (Still.loads rfl rfl Tryz.isAgg24 Tryz.sizeOf24 (vs := [_, _]) rfl (fun _ hs => cells_nth (hs.at (i := 7) rfl) ⟨rfl, ⟨rfl, trivial⟩⟩)) ?_
        refine RunL.grows rfl rfl rfl (Grows.call (vs := #[_]) rfl rfl Tryz.call7 (fun w hs => any_Text ba A ca a w (hda.sym hs) (he.sym hs))) (fun _ _ => ?_)
        refine RunL.nil ?_
        refine Ends.then ?_
        refine RunC.seq ?_
        refine RunC.region ?_
        refine RunL.still rfl rfl rfl (Still.loads rfl rfl Tryz.isAgg24 Tryz.sizeOf24 (vs := [_, _]) rfl (fun _ hs => cells_nth (hs.at (i := 7) rfl) ⟨rfl, ⟨rfl, trivial⟩⟩)) ?_
        refine RunL.grows rfl rfl rfl (Grows.call (vs := #[_]) rfl rfl Tryz.call21 (fun w hs => any_Components ba A ca a w (hda.sym hs))) (fun _ _ => ?_)
        refine RunL.nil ?_
        refine Ends.then ?_
        refine RunC.seq ?_
        refine RunC.region ?_
        refine RunL.still rfl rfl rfl (Still.loads rfl rfl Tryz.isAgg24 Tryz.sizeOf24 (vs := [_, _]) rfl (fun _ hs => cells_nth (hs.at (i := 7) rfl) ⟨rfl, ⟨rfl, trivial⟩⟩)) ?_
        refine RunL.grows rfl rfl rfl (Grows.call (vs := #[_]) rfl rfl Tryz.call22 (fun w hs => any_Regions ba A ca a w (hda.sym hs))) (fun _ _ => ?_)
        refine RunL.nil ?_
        refine Ends.then ?_
        refine RunC.seq ?_
        refine RunC.region ?_
        refine RunL.still rfl rfl rfl (Still.loads rfl rfl Tryz.isAgg24 Tryz.sizeOf24 (vs := [_, _]) rfl (fun _ hs => cells_nth (hs.at (i := 7) rfl) ⟨rfl, ⟨rfl, trivial⟩⟩)) ?_
        refine RunL.grows rfl rfl rfl (Grows.call (vs := #[_]) rfl rfl Tryz.call23 (fun w hs => any_Writhe ba A ca a w (hda.sym hs))) (fun _ _ => ?_)
        refine RunL.nil ?_
        refine Ends.then ?_
        refine RunC.seq ?_
        refine RunC.region ?_
        refine RunL.still rfl rfl rfl (Still.loads rfl rfl Tryz.isAgg24 Tryz.sizeOf24 (vs := [_, _]) rfl (fun _ hs => cells_nth (hs.at (i := 7) rfl) ⟨rfl, ⟨rfl, trivial⟩⟩)) ?_
        refine RunL.still rfl rfl rfl (Still.move rfl rfl) ?_
        refine RunL.still rfl rfl rfl (Still.move rfl rfl) ?_
        refine RunL.grows rfl rfl rfl (Grows.call (vs := #[_, _, _]) rfl rfl Tryz.call24 (fun w hs => any_Linking ba A ca a i j w (hda.sym hs))) (fun _ _ => ?_)
        refine RunL.nil ?_
        refine Ends.then ?_
        refine RunC.seq ?_
        refine RunC.region ?_
        refine RunL.still rfl rfl rfl (Still.loads rfl rfl Tryz.isAgg24 Tryz.sizeOf24 (vs := [_, _]) rfl (fun _ hs => cells_nth (hs.at (i := 7) rfl) ⟨rfl, ⟨rfl, trivial⟩⟩)) ?_
        refine RunL.grows rfl rfl rfl (Grows.call (vs := #[_]) rfl rfl Tryz.call25 (fun w hs => any_Mirror ba A ca a w (hda.sym hs))) (fun _ _ => ?_)
        refine RunL.nil ?_
        refine Ends.then ?_
        refine RunC.seq ?_
        refine RunC.region ?_
        refine RunL.still rfl rfl rfl (Still.loads rfl rfl Tryz.isAgg24 Tryz.sizeOf24 (vs := [_, _]) rfl (fun _ hs => cells_nth (hs.at (i := 7) rfl) ⟨rfl, ⟨rfl, trivial⟩⟩)) ?_
        refine RunL.grows rfl rfl rfl (Grows.call (vs := #[_]) rfl rfl Tryz.call26 (fun w hs => any_Reflect ba A ca a w (hda.sym hs))) (fun _ _ => ?_)
        refine RunL.nil ?_
        refine Ends.then ?_
        refine RunC.seq ?_
        refine RunC.region ?_
        refine RunL.still rfl rfl rfl (Still.loads rfl rfl Tryz.isAgg24 Tryz.sizeOf24 (vs := [_, _]) rfl (fun _ hs => cells_nth (hs.at (i := 7) rfl) ⟨rfl, ⟨rfl, trivial⟩⟩)) ?_
        refine RunL.still rfl rfl rfl (Still.move rfl rfl) ?_
        refine RunL.grows rfl rfl rfl (Grows.call (vs := #[_, _]) rfl rfl Tryz.call27 (fun w hs => any_Reverse ba A ca a ob OA oc xs w (hda.sym hs) (hx.sym hs))) (fun _ _ => ?_)
        refine RunL.nil ?_
        refine Ends.then ?_
        refine RunC.seq ?_
        refine RunC.region ?_
        refine RunL.still rfl rfl rfl (Still.loads rfl rfl Tryz.isAgg24 Tryz.sizeOf24 (vs := [_, _]) rfl (fun _ hs => cells_nth (hs.at (i := 7) rfl) ⟨rfl, ⟨rfl, trivial⟩⟩)) ?_
        refine RunL.still rfl rfl rfl (Still.move rfl rfl) ?_
        refine RunL.still rfl rfl rfl (Still.move rfl rfl) ?_
        refine RunL.grows rfl rfl rfl (Grows.call (vs := #[_, _, _]) rfl rfl Tryz.call16 (fun w hs => any_Renumber ba A ca a ob OA oc xs yb YA yc ys w (hda.sym hs) (hx.sym hs) (hy.sym hs) h8x h8y)) (fun _ _ => ?_)
        refine RunL.nil ?_
        refine Ends.then ?_
        refine RunC.seq ?_
        refine RunC.region ?_
        refine RunL.still rfl rfl rfl (Still.loads rfl rfl Tryz.isAgg24 Tryz.sizeOf24 (vs := [_, _]) rfl (fun _ hs => cells_nth (hs.at (i := 7) rfl) ⟨rfl, ⟨rfl, trivial⟩⟩)) ?_
        refine RunL.still rfl rfl rfl (Still.loads rfl rfl Tryz.isAgg24 Tryz.sizeOf24 (vs := [_, _]) rfl (fun _ hs => cells_nth (hs.at (i := 6) rfl) ⟨rfl, ⟨rfl, trivial⟩⟩)) ?_
        refine RunL.grows rfl rfl rfl (Grows.call (vs := #[_, _]) rfl rfl Tryz.call28 (fun w hs => any_Union ba A ca a bb B cb b w (hda.sym hs) (hdb.sym hs))) (fun _ _ => ?_)
        refine RunL.nil ?_
        refine Ends.then ?_
        refine RunC.seq ?_
        refine RunC.region ?_
        refine RunL.still rfl rfl rfl (Still.loads rfl rfl Tryz.isAgg24 Tryz.sizeOf24 (vs := [_, _]) rfl (fun _ hs => cells_nth (hs.at (i := 7) rfl) ⟨rfl, ⟨rfl, trivial⟩⟩)) ?_
        refine RunL.still rfl rfl rfl (Still.move rfl rfl) ?_
        refine RunL.still rfl rfl rfl (Still.loads rfl rfl Tryz.isAgg24 Tryz.sizeOf24 (vs := [_, _]) rfl (fun _ hs => cells_nth (hs.at (i := 6) rfl) ⟨rfl, ⟨rfl, trivial⟩⟩)) ?_
        refine RunL.still rfl rfl rfl (Still.move rfl rfl) ?_
        refine RunL.grows rfl rfl rfl (Grows.call (vs := #[_, _, _, _]) rfl rfl Tryz.call29 (fun w hs => any_Sum ba A ca a i bb B cb b j w (hda.sym hs) (hdb.sym hs))) (fun _ _ => ?_)
        refine RunL.nil ?_
        refine Ends.then ?_
        refine RunC.seq ?_
        refine RunC.region ?_
        refine RunL.still rfl rfl rfl (Still.loads rfl rfl Tryz.isAgg24 Tryz.sizeOf24 (vs := [_, _]) rfl (fun _ hs => cells_nth (hs.at (i := 7) rfl) ⟨rfl, ⟨rfl, trivial⟩⟩)) ?_
        refine RunL.grows rfl rfl rfl (Grows.call (vs := #[_]) rfl rfl Tryz.call15 (fun w hs => any_Canonical ba A ca a w (hda.sym hs))) (fun _ _ => ?_)
        refine RunL.nil ?_
        refine Ends.then ?_
        refine RunC.seq ?_
        refine RunC.region ?_
        refine RunL.still rfl rfl rfl (Still.loads rfl rfl Tryz.isAgg24 Tryz.sizeOf24 (vs := [_, _]) rfl (fun _ hs => cells_nth (hs.at (i := 7) rfl) ⟨rfl, ⟨rfl, trivial⟩⟩)) ?_
        refine RunL.still rfl rfl rfl (Still.loads rfl rfl Tryz.isAgg24 Tryz.sizeOf24 (vs := [_, _]) rfl (fun _ hs => cells_nth (hs.at (i := 6) rfl) ⟨rfl, ⟨rfl, trivial⟩⟩)) ?_
        refine RunL.grows rfl rfl rfl (Grows.call (vs := #[_, _]) rfl rfl Tryz.call14 (fun w hs => gives_any (dg_Same ba bb A B ca cb a b w (hda.sym hs) (hdb.sym hs)))) (fun _ _ => ?_)
        refine RunL.nil ?_
        refine Ends.then ?_
        refine RunC.seq ?_
        refine RunC.region ?_
        refine RunL.grows rfl rfl rfl (Grows.call (vs := #[]) rfl rfl Tryz.call13 (fun w hs => lw_sane w)) (fun _ _ => ?_)
        refine RunL.again (t := 85) (u := .bool true) rfl (rfl) ?_
        refine RunL.still rfl rfl rfl (Still.move rfl rfl) ?_
        refine RunL.still rfl rfl rfl (Still.loads rfl rfl Tryz.isAgg24 Tryz.sizeOf24 (vs := [_, _]) rfl (fun _ hs => cells_nth (hs.at (i := 7) rfl) ⟨rfl, ⟨rfl, trivial⟩⟩)) ?_
        refine RunL.still rfl rfl rfl (Still.loads rfl rfl Tryz.isAgg24 Tryz.sizeOf24 (vs := [_, _]) rfl (fun _ hs => cells_nth (hs.at (i := 2) rfl) ⟨rfl, ⟨rfl, trivial⟩⟩)) ?_
        refine RunL.grows rfl rfl rfl (Grows.call (vs := #[_, _]) rfl rfl Tryz.call11 (fun w hs => ref_Same ba ub A _ ca uc a a w (hda.sym hs) (dia_copy hda hub (by omega) (hs.at (i := 4) rfl)))) (fun _ _ => ?_)
        refine RunL.again (t := 89) (u := .bool true) rfl (congrArg Value.bool (decide_eq_true rfl)) ?_
        refine RunL.still rfl rfl rfl (Still.pickT rfl rfl rfl) ?_
        refine RunL.still rfl rfl rfl (Still.move rfl rfl) ?_
        refine RunL.still rfl rfl rfl (Still.loads rfl rfl Tryz.isAgg24 Tryz.sizeOf24 (vs := [_, _]) rfl (fun _ hs => cells_nth (hs.at (i := 6) rfl) ⟨rfl, ⟨rfl, trivial⟩⟩)) ?_
        refine RunL.still rfl rfl rfl (Still.loads rfl rfl Tryz.isAgg24 Tryz.sizeOf24 (vs := [_, _]) rfl (fun _ hs => cells_nth (hs.at (i := 3) rfl) ⟨rfl, ⟨rfl, trivial⟩⟩)) ?_
        refine RunL.grows rfl rfl rfl (Grows.call (vs := #[_, _]) rfl rfl Tryz.call11 (fun w hs => ref_Same bb vb B _ cb vc b b w (hdb.sym hs) (dia_copy hdb hvb (by omega) (hs.at (i := 5) rfl)))) (fun _ _ => ?_)
        refine RunL.again (t := 94) (u := .bool true) rfl (congrArg Value.bool (decide_eq_true rfl)) ?_
        refine RunL.still rfl rfl rfl (Still.pickT rfl rfl rfl) ?_
        refine RunL.still rfl rfl rfl (Still.move rfl rfl) ?_
        refine RunL.still rfl rfl rfl (Still.move rfl rfl) ?_
        refine RunL.still rfl rfl rfl (Still.move rfl rfl) ?_
        refine RunL.grows rfl rfl rfl (Grows.call (vs := #[_, _]) rfl rfl Tryz.call30 (fun w hs => lw_sameL (lisV ob oc xs) v43 xs xs w hx.shape (own_shape (hs.own (i := 1) rfl)) ((hx.sym hs).cells _) (own_all (hs.own (i := 1) rfl)) (by omega))) (fun _ _ => ?_)
        refine RunL.again (t := 99) (u := .bool true) rfl (congrArg Value.bool (decide_eq_true rfl)) ?_
        refine RunL.still rfl rfl rfl (Still.pickT rfl rfl rfl) ?_
        refine RunL.still rfl rfl rfl (Still.move rfl rfl) ?_
        refine RunL.still rfl rfl rfl (Still.move rfl rfl) ?_
        refine RunL.still rfl rfl rfl (Still.move rfl rfl) ?_
        refine RunL.grows rfl rfl rfl (Grows.call (vs := #[_, _]) rfl rfl Tryz.call30 (fun w hs => lw_sameL (lisV yb yc ys) v46 ys ys w hy.shape (own_shape (hs.own (i := 0) rfl)) ((hy.sym hs).cells _) (own_all (hs.own (i := 0) rfl)) (by omega))) (fun _ _ => ?_)
        refine RunL.again (t := 104) (u := .bool true) rfl (congrArg Value.bool (decide_eq_true rfl)) ?_
        refine RunL.still rfl rfl rfl (Still.pickT rfl rfl rfl) ?_
        refine RunL.still rfl rfl rfl (Still.assign rfl rfl) ?_
        refine RunL.nil ?_
        refine Ends.then ?_
        refine RunC.ret ?_
        refine Ends.leave (.inl rfl) (fun _ _ ok => results1 Tryz.results5 (Holds.tmp rfl) ok) (fun w3 hs => ?_)
        exact Ret.intro () trivial rfl (HSub.nil _) hs

end Go.Proofs
/- A diagram as an argument: opened. -/
namespace Go.Proofs
open Go Go.V Go.ChangeShapes Go.WideShapes
set_option maxRecDepth 20000
section
variable {H : Type} {enc : TypeId × Value → H} {w : World} {base : Nat} {sp : Nat → Bool} {held : Bool}
theorem in64_of_wf {n : Int} (h : (Lit.int .i64 n).wf = true) : In64 n := by
  simp [Lit.wf, IntKind.min, IntKind.max, IntKind.bits, IntKind.signed] at h
  exact ⟨by omega, by omega⟩
theorem some_of_len {α : Type} {xs : List α} {n i : Nat} (h : xs.length = n) (hi : i < n) : ∃ y, xs[i]? = some y := ⟨xs[i]'(by omega), by simp⟩
theorem open_int3 {n : Nat} {cs : List Value} {y : DataW H × List MemPlace} (h : DataW.trod enc Tryz.prog w base sp held n 3 cs = some y) : ∃ k : Int, cs = [iv k] ∧ In64 k := by
  obtain ⟨k, e, _, hw⟩ := DataW.trod_int Tryz.underlying3 h
  exact ⟨k, e, in64_of_wf hw⟩
theorem open_cr {n : Nat} {cs : List Value} {x : DataW H × List MemPlace} (h : DataW.trod enc Tryz.prog w base sp held n 62 cs = some x) : ∃ c : Cr, cs = encCr c ∧ c.Wf := by
  have c69 : Tryz.prog.cellsOf 62 = 5 := by kernel_rfl
  have c67 : Tryz.prog.cellsOf 60 = 4 := by kernel_rfl
  have c3 : Tryz.prog.cellsOf 3 = 1 := by kernel_rfl
  obtain ⟨xs, m, _, _, hl, hxl, hf⟩ := DataW.trod_struct Tryz.underlying62 h
  rw [c69] at hl
  match cs, hl with
  | [v0, v1, v2, v3, v4], _ =>
    have f0 : DataW.trod enc Tryz.prog w base sp held m 60 (([v0, v1, v2, v3, v4].drop 0).take (Tryz.prog.cellsOf 60)) = xs[0]? := hf 0 _ rfl
    have f1 : DataW.trod enc Tryz.prog w base sp held m 3 (([v0, v1, v2, v3, v4].drop 4).take (Tryz.prog.cellsOf 3)) = xs[1]? := hf 1 _ rfl
    obtain ⟨y0, e0⟩ := some_of_len hxl (i := 0) (by decide)
    obtain ⟨y1, e1⟩ := some_of_len hxl (i := 1) (by decide)
    rw [e0] at f0; rw [e1] at f1
    rw [c67] at f0
    rw [c3] at f1
    change DataW.trod enc Tryz.prog w base sp held m 60 [v0, v1, v2, v3] = some y0 at f0
    change DataW.trod enc Tryz.prog w base sp held m 3 [v4] = some y1 at f1
    obtain ⟨k4, g4, w4⟩ := open_int3 f1
    obtain ⟨zs, m2, _, _, _, hzl, hz⟩ := DataW.trod_array Tryz.underlying60 f0
    have z0 := hz 0 (by decide); have z1 := hz 1 (by decide); have z2 := hz 2 (by decide); have z3 := hz 3 (by decide)
    obtain ⟨u0, q0⟩ := some_of_len hzl (i := 0) (by decide)
    obtain ⟨u1, q1⟩ := some_of_len hzl (i := 1) (by decide)
    obtain ⟨u2, q2⟩ := some_of_len hzl (i := 2) (by decide)
    obtain ⟨u3, q3⟩ := some_of_len hzl (i := 3) (by decide)
    rw [q0] at z0; rw [q1] at z1; rw [q2] at z2; rw [q3] at z3
    rw [c3] at z0 z1 z2 z3
    change DataW.trod enc Tryz.prog w base sp held m2 3 [v0] = some u0 at z0
    change DataW.trod enc Tryz.prog w base sp held m2 3 [v1] = some u1 at z1
    change DataW.trod enc Tryz.prog w base sp held m2 3 [v2] = some u2 at z2
    change DataW.trod enc Tryz.prog w base sp held m2 3 [v3] = some u3 at z3
    obtain ⟨k0, g0, w0⟩ := open_int3 z0
    obtain ⟨k1, g1, w1⟩ := open_int3 z1
    obtain ⟨k2, g2, w2⟩ := open_int3 z2
    obtain ⟨k3, g3, w3⟩ := open_int3 z3
    simp at g0 g1 g2 g3 g4
    subst g0; subst g1; subst g2; subst g3; subst g4
    exact ⟨⟨k0, k1, k2, k3, k4⟩, rfl, ⟨w0, w1, w2, w3, w4⟩⟩
/-- The diagram that an argument is. -/
theorem open_dia {r : Reach} {b0 : Nat} {v : Value} {x : DataW H} {ps : List MemPlace} (hv : Value.okWide Tryz.prog w r b0 24 v) (h : DataW.Trod enc Tryz.prog w base sp held 24 v x ps) : ∃ bs A cap d, v = diaV bs cap d ∧ DiaAt w bs A d := by
  have c24 : Tryz.prog.cellsOf 24 = 2 := by kernel_rfl
  have c22 : Tryz.prog.cellsOf 22 = 1 := by kernel_rfl
  have c3 : Tryz.prog.cellsOf 3 = 1 := by kernel_rfl
  have c69 : Tryz.prog.cellsOf 62 = 5 := by kernel_rfl
  obtain ⟨cs, rfl, hsz⟩ := okWide_struct Tryz.underlying24 hv
  obtain ⟨l⟩ := cs
  obtain ⟨fuel, h⟩ := h
  change DataW.trod enc Tryz.prog w base sp held fuel 24 l = _ at h
  obtain ⟨xs, m, _, _, hl, hxl, hf⟩ := DataW.trod_struct Tryz.underlying24 h
  rw [c24] at hl
  match l, hl with
  | [v0, v1], _ =>
    have f0 : DataW.trod enc Tryz.prog w base sp held m 22 (([v0, v1].drop 0).take (Tryz.prog.cellsOf 22)) = xs[0]? := hf 0 _ rfl
    have f1 : DataW.trod enc Tryz.prog w base sp held m 3 (([v0, v1].drop 1).take (Tryz.prog.cellsOf 3)) = xs[1]? := hf 1 _ rfl
    obtain ⟨y0, e0⟩ := some_of_len hxl (i := 0) (by decide)
    obtain ⟨y1, e1⟩ := some_of_len hxl (i := 1) (by decide)
    rw [e0] at f0; rw [e1] at f1
    rw [c22] at f0
    rw [c3] at f1
    change DataW.trod enc Tryz.prog w base sp held m 22 [v0] = some y0 at f0
    change DataW.trod enc Tryz.prog w base sp held m 3 [v1] = some y1 at f1
    obtain ⟨k, g1, wk⟩ := open_int3 f1
    simp at g1
    subst g1
    rcases DataW.trod_slice Tryz.underlying22 f0 with ⟨e, _⟩ | ⟨a, len, cap, elems, rest, n, _, e, _, _, hlc, hcm, hel, hget, _⟩
    · simp at e
      subst e
      exact ⟨none, ⟨0, 0, none⟩, 0, ⟨[], k⟩, rfl, ⟨fun h => absurd h (Nat.lt_irrefl 0), fun i x hi => by simp at hi, Nat.zero_le _, fun x hx => (by cases hx), wk⟩⟩
    · simp at e
      subst e
      have hcr : ∀ i, i < len → ∃ c : Cr, c.Wf ∧ Cells w (a.add (i * 5)) (encCr c) := by
        intro i hi
        have hg := hget i hi
        obtain ⟨y, hy⟩ := some_of_len hel hi
        rw [hy, c69] at hg
        obtain ⟨cs', h1, h2⟩ := Option.bind_eq_some_iff.1 hg
        obtain ⟨c, rfl, hw⟩ := open_cr h2
        obtain ⟨_, hcl, hat⟩ := World.cells?_some h1
        exact ⟨c, hw, fun j u hj => by
          have hj5 : j < 5 := by have := (List.getElem?_eq_some_iff.1 hj).1; simpa [encCr] using this
          rw [hat j hj5, hj]⟩
      obtain ⟨f, hf2⟩ := Classical.axiomOfChoice (r := fun (i : Nat) (c : Cr) => i < len → c.Wf ∧ Cells w (a.add (i * 5)) (encCr c)) fun i => by
        by_cases hi : i < len
        · obtain ⟨c, hc⟩ := hcr i hi; exact ⟨c, fun _ => hc⟩
        · exact ⟨⟨0, 0, 0, 0, 0⟩, fun h => absurd h hi⟩
      have hll : ((List.range len).map f).length = len := by simp
      refine ⟨some a, a, cap, ⟨(List.range len).map f, k⟩, by simp [diaV], ⟨fun _ => rfl, fun i x hi => ?_, ?_, fun x hx => ?_, wk⟩⟩
      · have hil : i < len := by have := (List.getElem?_eq_some_iff.1 hi).1; simpa using this
        simp [hil] at hi
        subst hi
        exact (hf2 i hil).2
      · show ((List.range len).map f).length ≤ _
        rw [hll]; have : maxLen = 9223372036854775807 := rfl; omega
      · obtain ⟨i, hi, rfl⟩ := List.mem_map.1 hx
        exact (hf2 i (List.mem_range.1 hi)).1
end
end Go.Proofs
/- A list of numbers as an argument: opened. -/
namespace Go.Proofs
open Go Go.V Go.ChangeShapes Go.WideShapes
set_option maxRecDepth 20000
section
variable {H : Type} {enc : TypeId × Value → H} {w : World} {base : Nat} {sp : Nat → Bool} {held : Bool}
theorem open_num {r : Reach} {b0 : Nat} {v : Value} {x : DataW H} {ps : List MemPlace} (hv : Value.okWide Tryz.prog w r b0 3 v) (h : DataW.Trod enc Tryz.prog w base sp held 3 v x ps) : ∃ k : Int, v = iv k ∧ In64 k := by
  obtain ⟨n, e, _, _, hw⟩ := open_int Tryz.underlying3 hv h
  exact ⟨n, e, in64_of_wf hw⟩
theorem open_lis {r : Reach} {b0 : Nat} {v : Value} {x : DataW H} {ps : List MemPlace} (hv : Value.okWide Tryz.prog w r b0 36 v) (h : DataW.Trod enc Tryz.prog w base sp held 36 v x ps) : ∃ bs A cap xs, v = lisV bs cap xs ∧ IntsAt w bs A cap xs := by
  have c3 : Tryz.prog.cellsOf 3 = 1 := by kernel_rfl
  obtain ⟨bs, len, cap, rfl⟩ := okWide_slice Tryz.underlying36 hv
  obtain ⟨fuel, h⟩ := h
  change DataW.trod enc Tryz.prog w base sp held fuel 36 [.slice bs len cap] = _ at h
  rcases DataW.trod_slice Tryz.underlying36 h with ⟨e, _⟩ | ⟨a, len, cap, elems, rest, n, _, e, _, _, hlc, hcm, hel, hget, _⟩
  · simp at e
    obtain ⟨rfl, rfl, rfl⟩ := e
    exact ⟨none, ⟨0, 0, none⟩, 0, [], rfl, ⟨fun h => absurd h (Nat.lt_irrefl 0), fun j v hj => by simp [ints] at hj, Nat.zero_le _, Nat.zero_le _⟩⟩
  · simp at e
    obtain ⟨rfl, rfl, rfl⟩ := e
    have hcr : ∀ i, i < len → ∃ k : Int, w.cell? (a.add i) = some (iv k) := by
      intro i hi
      have hg := hget i hi
      obtain ⟨y, hy⟩ := some_of_len hel hi
      rw [hy, c3] at hg
      obtain ⟨cs', h1, h2⟩ := Option.bind_eq_some_iff.1 hg
      obtain ⟨k, rfl, _⟩ := open_int3 h2
      obtain ⟨_, hcl, hat⟩ := World.cells?_some h1
      have := hat 0 (by decide)
      rw [Nat.mul_one] at this
      exact ⟨k, by simpa [Addr.add] using this⟩
    obtain ⟨f, hf⟩ := Classical.axiomOfChoice (r := fun (i : Nat) (k : Int) => i < len → w.cell? (a.add i) = some (iv k)) fun i => by
      by_cases hi : i < len
      · obtain ⟨k, hk⟩ := hcr i hi; exact ⟨k, fun _ => hk⟩
      · exact ⟨0, fun h => absurd h hi⟩
    refine ⟨some a, a, cap, (List.range len).map f, by simp [lisV], ⟨fun _ => rfl, fun j v hj => ?_, by simpa using hlc, by have : maxLen = 9223372036854775807 := rfl; omega⟩⟩
    have hjl : j < len := by have := (List.getElem?_eq_some_iff.1 hj).1; simpa [ints] using this
    simp [ints, ints.iv', hjl] at hj
    rw [hf j hjl]; exact congrArg some hj
end
end Go.Proofs
