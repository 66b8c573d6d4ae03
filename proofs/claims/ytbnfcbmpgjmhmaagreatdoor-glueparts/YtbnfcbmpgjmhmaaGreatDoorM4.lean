/- What the rows say of the library's variables; a wrap that keeps the world's shape. -/
import Derived.Test.YtbnfcbmpgjmhmaaGreatDoorM2
import Derived.Test.YtbnfcbmpgjmhmaaGreatDoorRows
import Derived.Stop.LaidErr
import Derived.Stop.Joined
import Derived.LaidMore
import Derived.Lib.LaidTab
import Derived.MakeChecks
import Derived.Shelf.Vars
import Derived.ChangeMaps5
import Derived.HandedShaped
import Derived.Test.YtbnfcbmpgjmhmaaGreatDoorM1
import Derived.Test.YtbnfcbmpgjmhmaaGreatDoorM0
import Derived.Test.YtbnfcbmpgjmhmaaGreatDoorProg
import Derived.KernelRfl
import Derived.Lib.SlTrimSet
namespace Go.Proofs
open Go Go.V Go.ChangeShapes Go.WideShapes
set_option maxRecDepth 100000
theorem z_gES : Tryz.prog.globalNamed "strconv.ErrSyntax" = some 2 := by kernel_rfl
theorem z_gER : Tryz.prog.globalNamed "strconv.ErrRange" = some 3 := by kernel_rfl
theorem z_gPT : Tryz.prog.globalNamed "internal/strconv.uint64pow10" = some 0 := by kernel_rfl
theorem z_gEST : (Tryz.prog.globals[2]?).map (·.type) = some 108 := by kernel_rfl
theorem z_gERT : (Tryz.prog.globals[3]?).map (·.type) = some 108 := by kernel_rfl
theorem z_gPTT : (Tryz.prog.globals[0]?).map (·.type) = some 147 := by kernel_rfl
theorem z_star : "*" ++ "errors.errorString" = "*errors.errorString" := by decide
theorem z_row (u : TypeId) (h : Tryz.prog.typeName? 3 u = some "*errors.errorString") : u = 168 :=
  typeName_ptr_named (nm := "errors.errorString") (by rw [z_star]; kernel_rfl) (by kernel_rfl) (by decide) u (by rw [z_star]; exact h)
theorem z_c170 : Tryz.prog.cellsOf 170 = 1 := by kernel_rfl
theorem z_c9 : Tryz.prog.cellsOf 9 = 1 := by kernel_rfl
theorem z_c129 : Tryz.prog.cellsOf 129 = 1 := by kernel_rfl
theorem z_c147 : Tryz.prog.cellsOf 147 = 20 := by kernel_rfl
abbrev laidT : List (String × DataW Unit) := YtbnfcbmpgjmhmaaGreatDoor.Rows.glueMakesRow.laid
theorem laidT_plain : (laidT.all fun x => x.2.handleName?.isNone) = true := by kernel_rfl
theorem env_of_laid {W : World} (h : laidMetH Tryz.prog laidT W) (hsh : W.ShapedOpen Tryz.prog) : Env W := by
  rw [MakeChecks.laidMetH_plain _ _ _ laidT_plain] at h
  have h2 := h.tail.tail
  have h5 := h2.tail.tail.tail
  have h4 := h2.tail.tail
  have tab : Lib.TabIs Tryz.prog W "internal/strconv.uint64pow10" .u64 Lib.pow10Tab := Lib.tabIs_of_head z_gPT z_gPTT Tryz.underlying147 Tryz.underlying129 z_c129 z_c147 h2
  obtain ⟨a0, s0, e0, -, -, -⟩ := laid_sentinel h5 z_gES z_gEST Tryz.underlying108 z_row Tryz.underlying168 Tryz.underlying170 rfl rfl Tryz.underlying9 z_c170 z_c9
  obtain ⟨a1, s1, e1, -, -, -⟩ := laid_sentinel h4 z_gER z_gERT Tryz.underlying108 z_row Tryz.underlying168 Tryz.underlying170 rfl rfl Tryz.underlying9 z_c170 z_c9
  refine ⟨tab, ?_, ⟨_, _, e0⟩, ⟨_, _, e1⟩⟩
  exact cell_of_shapedOpen_int (zero := #[.int .i64 0]) (t := 3) hsh (of_decide_eq_true (by kernel_rfl)) (by kernel_rfl) rfl (by kernel_rfl) (by kernel_rfl) Tryz.underlying3
section
variable {H : Type} {enc : TypeId × Value → H}
/-- The wrap with a condition on the world, the world's shape kept. -/
theorem wrap_and_shaped {a : Assume} {C : Checked} {os : Os} {f : FuncId} {fn : Func} {s : ChangeSpec} {conds : List PathCond} {apart fresh handsOn again : Bool} {X : World → Array Value → Prop}
    (hX : ∀ (w w' : World) (args : Array Value), w.heap = w'.heap → X w args → X w' args)
    (own : ownKnob C.prog.godebug = none) (started : os.Started) (noInit : C.prog.inits.idxOf? f = none) (hfn : C.prog.funcs[f]? = some fn)
    (witness : ∃ (w : World) (tape : Tape) (i : Input), w.os = os ∧ (w.forCall tape i).Shaped C.prog ∧ i.vars = [] ∧ Input.okWide C.prog (w.forCall tape i) .any w.heap.size f i ∧
      ((s.pre enc C.prog fn conds apart (w.forCall tape i).memory i.args ∧ X (w.forCall tape i).memory i.args) ∧ sizedMet enc C.prog fn (OpenSpec.ofChange s) apart (w.forCall tape i).memory i.args) ∧ a.holds C.prog (lone (Frame.enter C.prog f i.args .normal) [] (w.forCall tape i)))
    (contract : ∀ (W : World) (base : Nat) (args : Array Value) (ds gs : List (DataW H)) (before : List MemPlace),
      (∀ (j : Nat) t v, fn.params[j]? = some t → args[j]? = some v → Value.okWide C.prog W .any base t v) →
      DataW.Whole enc C.prog fn.params.toList s.vars apart W args.toList ds gs before →
      X W args → W.ShapedOpen C.prog →
      Calls C.prog f args W fun e W' => ∃ v, e = .returned v ∧ s.post enc C.prog fn apart fresh handsOn again W args v W') :
    ReturnsInHanded a C os f .any (fun w args => (s.pre enc C.prog fn conds apart w args ∧ X w args) ∧ sizedMet enc C.prog fn (OpenSpec.ofChange s) apart w args) (s.post enc C.prog fn apart fresh handsOn again) := by
  refine returnsInHanded_of_calls own started noInit witness ?_
  intro w tape i _ hsh _ hok hpre hholds
  obtain ⟨_, _, _, fn', hfn', _, _, _, _, hval⟩ := hok
  have e : fn' = fn := Option.some.inj (hfn'.symm.trans hfn)
  subst e
  obtain ⟨⟨⟨ds, gs, before, hw, hc⟩, hx⟩, hz⟩ := hpre
  have hw' := DataW.Whole.of_heap (w' := w.forCall tape i) (by rfl) hw
  refine (contract (w.forCall tape i) w.heap.size i.args ds gs before hval hw' (hX _ _ _ (by rfl) hx) hsh).mono fun e W' ⟨v, he, hp⟩ => ?_
  subst he
  exact ChangeSpec.post_blind hp
end
end Go.Proofs
/- Rules for values put together: more shapes. -/
namespace Go.V
open Go
section builds
variable {C : Cx} {F : Fr} {L : List HL} {o : Oper}
theorem Still.build_5_5_5_5 {t : TypeId} {i0 i1 i2 i3 : Nat} {a0 a1 a2 a3 : Operand} {x0_0 x0_1 x0_2 x0_3 x0_4 x1_0 x1_1 x1_2 x1_3 x1_4 x2_0 x2_1 x2_2 x2_3 x2_4 x3_0 x3_1 x3_2 x3_3 x3_4 : Value} (g : Value → Value → Value → Value → Value → Value → Value → Value → Value → Value → Value → Value → Value → Value → Value → Value → Value → Value → Value → Value → Value) (ho : o.op = .build t #[(i0, a0), (i1, a1), (i2, a2), (i3, a3)]) (h0 : F.ev a0 = some (.agg #[x0_0, x0_1, x0_2, x0_3, x0_4])) (h1 : F.ev a1 = some (.agg #[x1_0, x1_1, x1_2, x1_3, x1_4])) (h2 : F.ev a2 = some (.agg #[x2_0, x2_1, x2_2, x2_3, x2_4])) (h3 : F.ev a3 = some (.agg #[x3_0, x3_1, x3_2, x3_3, x3_4])) (hr : ∀ w, (Instr.build t #[(i0, (.agg #[x0_0, x0_1, x0_2, x0_3, x0_4])), (i1, (.agg #[x1_0, x1_1, x1_2, x1_3, x1_4])), (i2, (.agg #[x2_0, x2_1, x2_2, x2_3, x2_4])), (i3, (.agg #[x3_0, x3_1, x3_2, x3_3, x3_4]))]).run C.P w = .ok (g x0_0 x0_1 x0_2 x0_3 x0_4 x1_0 x1_1 x1_2 x1_3 x1_4 x2_0 x2_1 x2_2 x2_3 x2_4 x3_0 x3_1 x3_2 x3_3 x3_4) w) : Still C o F L (g x0_0 x0_1 x0_2 x0_3 x0_4 x1_0 x1_1 x1_2 x1_3 x1_4 x2_0 x2_1 x2_2 x2_3 x2_4 x3_0 x3_1 x3_2 x3_3 x3_4) :=
  Still.build (vs := #[(i0, (.agg #[x0_0, x0_1, x0_2, x0_3, x0_4])), (i1, (.agg #[x1_0, x1_1, x1_2, x1_3, x1_4])), (i2, (.agg #[x2_0, x2_1, x2_2, x2_3, x2_4])), (i3, (.agg #[x3_0, x3_1, x3_2, x3_3, x3_4]))]) ho (by simp only [List.map_cons, List.map_nil, h0, h1, h2, h3]) hr
theorem Still.lenMap {κ : Type} [DecidableEq κ] {t kt et : TypeId} {x : Operand} {i b : Nat} {enc : κ → Value} {l : List (κ × Value)} (ho : o.op = .call { callee := .builtin .len, args := #[x], argTypes := #[t] }) (hx : F.ev x = some (.map (some b)))
    (hi : L[i]? = some (HL.mp b enc l)) (ht : C.P.underlying t = some (.map kt et)) : Still C o F L (.int .i64 l.length) :=
  ⟨fun c h => (by rw [ho] at h; cases h), fun a w ok => by
    obtain ⟨d, op, ty, ps, af, g⟩ := o; subst ho
    obtain ⟨es, clock, hb, he⟩ := ok.sym.at hi
    have hl : es.size = l.length := by
      have := congrArg List.length he
      simpa using this
    rw [BigFrame.execOp_builtin, BigFrame.builtin_len]
    simp [ok.fr.ev hx, Builtin.len_, run_underlying ht, MapKept.run_getObj_map hb, goInt, hl]⟩
/-- 's[i:]'. -/
theorem Still.sliceFrom {t e : TypeId} {x y : Operand} {A : Addr} {n cap size : Nat} {k : IntKind} {z : Int} (i : Nat) (ho : o.op = .slice t x (some y) none none) (hx : F.ev x = some (.slice (some A) n cap)) (hy : F.ev y = some (.int k z)) (ht : C.P.underlying t = some (.slice e)) (hz : ∀ w, (sizeOf e).run C.P w = .ok size w)
    (hzi : z = (i : Int)) (hi : i ≤ n ∧ n ≤ cap) : Still C o F L (.slice (some (if cap = i then A else A.add (i * size))) (n - i) (cap - i)) :=
  ⟨fun c h => (by rw [ho] at h; cases h), fun a w ok => by
    subst hzi
    obtain ⟨h1, h2⟩ := hi
    simp only [execOp, ho, ok.fr.ev hx, Option.map, ok.fr.ev hy]
    simp [Instr.sliceAt, Instr.slice, run_underlying ht, Instr.sliceBounds, Instr.sliceBound, asIntOf, hz, h1]
    split <;> simp⟩
end builds
end Go.V
/- Equality of gluings and of lists; counts; small gluings. -/
namespace Go.Proofs
open Go Go.V
set_option maxRecDepth 20000
theorem eqT (d : Nat) (x y : Tt) (w : World) : (Op.equalIn (d + 4) 35 (ttV x) (ttV y)).run Tryz.prog w = .ok (decide (x = y)) w := by
  have h := eq_arr4N (P := Tryz.prog) (t := 35) (e := 34) (i := Tryz.t34) Tryz.underlying35 (by kernel_rfl) (by kernel_rfl) Tryz.sizeOf34 Tryz.isAgg34 (d := d + 2) (cs := (ttV x).cells) (us := (ttV y).cells)
    (fun w => eqF d x.f0.tet x.f0.p.a0 x.f0.p.a1 x.f0.p.a2 x.f0.p.a3 y.f0.tet y.f0.p.a0 y.f0.p.a1 y.f0.p.a2 y.f0.p.a3 w) (fun w => eqF d x.f1.tet x.f1.p.a0 x.f1.p.a1 x.f1.p.a2 x.f1.p.a3 y.f1.tet y.f1.p.a0 y.f1.p.a1 y.f1.p.a2 y.f1.p.a3 w)
    (fun w => eqF d x.f2.tet x.f2.p.a0 x.f2.p.a1 x.f2.p.a2 x.f2.p.a3 y.f2.tet y.f2.p.a0 y.f2.p.a1 y.f2.p.a2 y.f2.p.a3 w) (fun w => eqF d x.f3.tet x.f3.p.a0 x.f3.p.a1 x.f3.p.a2 x.f3.p.a3 y.f3.tet y.f3.p.a0 y.f3.p.a1 y.f3.p.a2 y.f3.p.a3 w) w
  rw [show (ttV x) = .agg (ttV x).cells from rfl, show (ttV y) = .agg (ttV y).cells from rfl, h]
  congr 1
  refine decide_eq_decide.2 ?_
  rw [fc_eq, fc_eq, fc_eq, fc_eq]
  obtain ⟨a, b, c, e⟩ := x
  obtain ⟨a', b', c', e'⟩ := y
  simp
theorem take_eq_succ {α : Type} {a b : List α} {i : Nat} {x : α} (h : a.take i = b.take i) (ha : a[i]? = some x) (hb : b[i]? = some x) : a.take (i + 1) = b.take (i + 1) := by rw [List.take_add_one, List.take_add_one, h, ha, hb]
theorem take_eq_all {α : Type} {a b : List α} (h : a.take a.length = b.take a.length) (hl : a.length = b.length) : a = b := by rwa [List.take_length, hl, List.take_length] at h

theorem gl_Equal (ba : Option Addr) (A : Addr) (ca : Nat) (a : Glu) (bb : Option Addr) (B : Addr) (cb : Nat) (b : Glu) (w : World) (hga : GluAt w ba A a) (hgb : GluAt w bb B b) : Gives Tryz.prog 60 #[.slice ba a.length ca, .slice bb b.length cb] w Nil (fun _ : Unit => True) (fun _ => .bool (decide (a = b))) (fun _ => []) := by
  have hlen := hga.len
  have hlen2 := hgb.len
  refine fn_of_run (S := Nil) (args := [.slice ba a.length ca, .slice bb b.length cb]) (n := 26) (L := []) Tryz.func60 rfl Tryz.ntmps60 (Nat.le_of_ble_eq_true rfl) (Sym.nil _ _) ?_
  change RunC _ _ _ [(0, _), (1, _)] _
  refine RunC.seq ?_
  refine RunC.region ?_
  refine RunL.still rfl rfl rfl (Still.assign rfl rfl) ?_
  refine RunL.nil ?_
  refine Ends.then ?_
  refine RunC.seq ?_
  refine RunC.seq ?_
  refine RunC.region ?_
  refine RunL.still rfl rfl rfl (Still.move rfl rfl) ?_
  refine RunL.still rfl rfl rfl (Still.lenSlice rfl rfl Tryz.underlying22) ?_
  refine RunL.still rfl rfl rfl (Still.move rfl rfl) ?_
  refine RunL.still rfl rfl rfl (Still.lenSlice rfl rfl Tryz.underlying22) ?_
  refine RunL.still rfl rfl rfl (Still.neq rfl rfl rfl) ?_
  refine RunL.nil ?_
  refine Ends.then ?_
  refine RunC.cond rfl (fun h10 => ?_) (fun h10 => ?_)
  · have h10 := of_decide_eq_true h10
    refine RunC.seq ?_
    refine RunC.region ?_
    refine RunL.still rfl rfl rfl (Still.assign rfl rfl) ?_
    refine RunL.nil ?_
    refine Ends.then ?_
    refine RunC.ret ?_
    refine Ends.then_ret ?_
    refine Ends.leave (.inl rfl) (fun _ _ ok => results1 Tryz.results60 (Holds.tmp rfl) ok) (fun w1 hs => ?_)
    exact Ret.intro () trivial (congrArg Value.bool (decide_eq_false (fun e => h10 (by rw [e]))).symm) (HSub.nil _) hs
  · have h10 := of_decide_eq_false h10
    have hl : a.length = b.length := by omega
    refine RunC.skip ?_
    refine Ends.then ?_
    refine RunC.seq ?_
    refine RunC.seq ?_
    refine RunC.region ?_
    refine RunL.still rfl rfl rfl (Still.move rfl rfl) ?_
    refine RunL.still rfl rfl rfl (Still.lenSlice rfl rfl Tryz.underlying22) ?_
    refine RunL.still rfl rfl rfl (Still.move rfl rfl) ?_
    refine RunL.nil ?_
    refine Ends.then ?_
    refine RunC.block ?_
    refine RunC.loop2 (γ := Nat) (keep := [(0, _), (1, _), (12, _)]) (hkeep := []) (fun i => i ≤ a.length ∧ a.take i = b.take i) (fun i => a.length - i) (fun i => [(13, iv i)]) (fun i => []) 0 ⟨by omega, rfl⟩ (Fr.Sub.cons rfl (Fr.Sub.nil _)) (Fr.Sub.cons rfl (Fr.Sub.cons rfl (Fr.Sub.cons rfl (Fr.Sub.nil _)))) (HSub.nil _) ?_
    rintro i ⟨hi, htk⟩
    refine RunC.seq ?_
    refine RunC.region ?_
    refine RunL.still rfl rfl rfl (Still.lss rfl rfl rfl) ?_
    refine RunL.nil ?_
    refine Ends.then ?_
    refine RunC.seq ?_
    refine RunC.cond rfl (fun h14 => ?_) (fun h14 => ?_)
    · have h14 := of_decide_eq_true h14
      obtain ⟨x, hx⟩ := get_of_lt (l := a) (i := i) (by omega)
      obtain ⟨y, hy⟩ := get_of_lt (l := b) (i := i) (by omega)
      refine RunC.skip ?_
      refine Ends.then ?_
      refine RunC.seq ?_
      refine RunC.block ?_
      refine RunC.seq ?_
      refine RunC.region ?_
      refine RunL.still rfl rfl rfl (Still.move rfl rfl) ?_
      refine RunL.still rfl rfl rfl (Still.assign rfl rfl) ?_
      refine RunL.nil ?_
      refine Ends.then ?_
      refine RunC.seq ?_
      refine RunC.draw 8 (.still 0 (.still 1 (.still 2 (.still 3 (.still 4 (.still 5 (.still 6 (.still 7 .done)))))))) (by kernel_rfl) (by kernel_rfl) ?_
      refine RunG.still rfl rfl rfl rfl (Still.move rfl rfl) ?_
      refine RunG.still rfl rfl rfl rfl (Still.move rfl rfl) ?_
      refine RunG.still rfl rfl rfl rfl (Still.indexSliceN rfl rfl rfl Tryz.underlying22 Tryz.sizeOf35 (hga.base (by omega)) (by omega)) ?_
      refine RunG.still rfl rfl rfl rfl (Still.loads rfl rfl Tryz.isAgg35 Tryz.sizeOf35 (vs := [iv x.f0.tet, iv x.f0.p.a0, iv x.f0.p.a1, iv x.f0.p.a2, iv x.f0.p.a3, iv x.f1.tet, iv x.f1.p.a0, iv x.f1.p.a1, iv x.f1.p.a2, iv x.f1.p.a3, iv x.f2.tet, iv x.f2.p.a0, iv x.f2.p.a1, iv x.f2.p.a2, iv x.f2.p.a3, iv x.f3.tet, iv x.f3.p.a0, iv x.f3.p.a1, iv x.f3.p.a2, iv x.f3.p.a3]) rfl (fun _ hs => (hga.sym hs).cell i x hx)) ?_
      refine RunG.still rfl rfl rfl rfl (Still.move rfl rfl) ?_
      refine RunG.still rfl rfl rfl rfl (Still.move rfl rfl) ?_
      refine RunG.still rfl rfl rfl rfl (Still.indexSliceN rfl rfl rfl Tryz.underlying22 Tryz.sizeOf35 (hgb.base (by omega)) (by omega)) ?_
      refine RunG.still rfl rfl rfl rfl (Still.loads rfl rfl Tryz.isAgg35 Tryz.sizeOf35 (vs := [iv y.f0.tet, iv y.f0.p.a0, iv y.f0.p.a1, iv y.f0.p.a2, iv y.f0.p.a3, iv y.f1.tet, iv y.f1.p.a0, iv y.f1.p.a1, iv y.f1.p.a2, iv y.f1.p.a3, iv y.f2.tet, iv y.f2.p.a0, iv y.f2.p.a1, iv y.f2.p.a2, iv y.f2.p.a3, iv y.f3.tet, iv y.f3.p.a0, iv y.f3.p.a1, iv y.f3.p.a2, iv y.f3.p.a3]) rfl (fun _ hs => (hgb.sym hs).cell i y hy)) ?_
      refine RunG.done ?_
      show RunL _ _ _ [_] _ _
      refine RunL.still rfl rfl rfl (Still.neqAgg rfl rfl rfl Tryz.eqGuardType35 (fun _ => eqT _ _ _ _)) ?_
      refine RunL.nil ?_
      refine Ends.then ?_
      refine RunC.cond rfl (fun h24 => ?_) (fun h24 => ?_)
      · have h24 : ¬ x = y := by simpa using h24
        refine RunC.seq ?_
        refine RunC.region ?_
        refine RunL.still rfl rfl rfl (Still.assign rfl rfl) ?_
        refine RunL.nil ?_
        refine Ends.then ?_
        refine RunC.ret ?_
        refine Ends.block_ret ?_
        refine Ends.then_ret ?_
        refine Ends.then_ret ?_
        refine Ends.block_ret ?_
        refine Ends.then_ret ?_
        refine Ends.leave (.inl rfl) (fun _ _ ok => results1 Tryz.results60 (Holds.tmp rfl) ok) (fun w2 hs => ?_)
        exact Ret.intro () trivial (congrArg Value.bool (decide_eq_false (fun e => h24 (by subst e; rw [hx] at hy; exact Option.some.inj hy))).symm) (HSub.nil _) hs
      · have h24 : x = y := by simpa using h24
        refine RunC.skip ?_
        refine Ends.block ?_
        refine Ends.then ?_
        refine RunC.region ?_
        refine RunL.still rfl rfl rfl (Still.add rfl rfl rfl (fits64 (by omega) (by omega))) ?_
        refine RunL.still rfl rfl rfl (Still.move rfl rfl) ?_
        refine RunL.nil ?_
        obtain rfl : x = y := h24
        refine Ends.again (i + 1) ?_ ?_ (Fr.Sub.app ?_ ?_) ?_
        · exact ⟨by omega, take_eq_succ htk hx hy⟩
        · show _ < _; omega
        · exact Fr.Sub.cons rfl (Fr.Sub.nil _)
        · exact Fr.Sub.cons rfl (Fr.Sub.cons rfl (Fr.Sub.cons rfl (Fr.Sub.nil _)))
        · exact HSub.nil _
    · have h14 := of_decide_eq_false h14
      obtain rfl : i = a.length := by omega
      refine RunC.exit ?_
      refine Ends.then_exit ?_
      refine Ends.then_exit ?_
      refine Ends.block_exit ?_
      refine Ends.then ?_
      refine RunC.seq ?_
      refine RunC.region ?_
      refine RunL.still rfl rfl rfl (Still.assign rfl rfl) ?_
      refine RunL.nil ?_
      refine Ends.then ?_
      refine RunC.ret ?_
      refine Ends.leave (.inl rfl) (fun _ _ ok => results1 Tryz.results60 (Holds.tmp rfl) ok) (fun w3 hs => ?_)
      exact Ret.intro () trivial (congrArg Value.bool (decide_eq_true (take_eq_all htk hl)).symm) (HSub.nil _) hs

theorem rf_Same (ba : Option Addr) (A : Addr) (ca : Nat) (a : Glu) (bb : Option Addr) (B : Addr) (cb : Nat) (b : Glu) (w : World) (hga : GluAt w ba A a) (hgb : GluAt w bb B b) : Gives Tryz.prog 20 #[gluV ba ca a, gluV bb cb b] w Nil (fun _ : Unit => True) (fun _ => .bool (decide (a = b))) (fun _ => []) := by
  have hlen := hga.len
  have hlen2 := hgb.len
  refine fn_of_run (S := Nil) (args := [gluV ba ca a, gluV bb cb b]) (n := 31) (L := []) Tryz.func20 rfl Tryz.ntmps20 (Nat.le_of_ble_eq_true rfl) (Sym.nil _ _) ?_
  change RunC _ _ _ [(0, _), (1, _)] _
  refine RunC.seq ?_
  refine RunC.region ?_
  refine RunL.grows rfl rfl rfl (Grows.box rfl rfl) (fun b2 _ => ?_)
  refine RunL.grows rfl rfl rfl (Grows.box rfl rfl) (fun b3 _ => ?_)
  refine RunL.still rfl rfl rfl (Still.assign rfl rfl) ?_
  refine RunL.nil ?_
  refine Ends.then ?_
  refine RunC.seq ?_
  refine RunC.seq ?_
  refine RunC.region ?_
  refine RunL.still rfl rfl rfl (Still.fieldAddrL (off := 0) (off' := 0) rfl rfl Tryz.underlying24 rfl Tryz.sizeOf22 rfl) ?_
  refine RunL.still rfl rfl rfl (Still.load rfl rfl Tryz.isAgg22 (fun _ hs => cell_nth (hs.at (i := 1) rfl) rfl)) ?_
  refine RunL.still rfl rfl rfl (Still.lenSlice rfl rfl Tryz.underlying22) ?_
  refine RunL.still rfl rfl rfl (Still.fieldAddrL (off := 0) (off' := 0) rfl rfl Tryz.underlying24 rfl Tryz.sizeOf22 rfl) ?_
  refine RunL.still rfl rfl rfl (Still.load rfl rfl Tryz.isAgg22 (fun _ hs => cell_nth (hs.at (i := 0) rfl) rfl)) ?_
  refine RunL.still rfl rfl rfl (Still.lenSlice rfl rfl Tryz.underlying22) ?_
  refine RunL.still rfl rfl rfl (Still.neq rfl rfl rfl) ?_
  refine RunL.nil ?_
  refine Ends.then ?_
  refine RunC.cond rfl (fun h12 => ?_) (fun h12 => ?_)
  · have h12 := of_decide_eq_true h12
    refine RunC.seq ?_
    refine RunC.region ?_
    refine RunL.still rfl rfl rfl (Still.assign rfl rfl) ?_
    refine RunL.nil ?_
    refine Ends.then ?_
    refine RunC.ret ?_
    refine Ends.then_ret ?_
    refine Ends.leave (.inl rfl) (fun _ _ ok => results1 Tryz.results20 (Holds.tmp rfl) ok) (fun w1 hs => ?_)
    exact Ret.intro () trivial (congrArg Value.bool (decide_eq_false (fun e => h12 (by rw [e]))).symm) (HSub.nil _) hs
  · have h12 := of_decide_eq_false h12
    have hl : a.length = b.length := by omega
    refine RunC.skip ?_
    refine Ends.then ?_
    refine RunC.seq ?_
    refine RunC.seq ?_
    refine RunC.region ?_
    refine RunL.still rfl rfl rfl (Still.assign rfl rfl) ?_
    refine RunL.nil ?_
    refine Ends.then ?_
    refine RunC.block ?_
    refine RunC.loop2 (γ := Nat) (keep := [(2, _), (3, _)]) (hkeep := [_, _]) (fun i => i ≤ a.length ∧ a.take i = b.take i) (fun i => a.length - i) (fun i => [(5, iv i)]) (fun i => []) 0 ⟨by omega, rfl⟩ (Fr.Sub.cons rfl (Fr.Sub.nil _)) (Fr.Sub.cons rfl (Fr.Sub.cons rfl (Fr.Sub.nil _))) (HSub.pick 0 rfl (HSub.pick 0 rfl (HSub.nil _))) ?_
    rintro i ⟨hi, htk⟩
    refine RunC.seq ?_
    refine RunC.seq ?_
    refine RunC.region ?_
    refine RunL.still rfl rfl rfl (Still.move rfl rfl) ?_
    refine RunL.still rfl rfl rfl (Still.fieldAddrL (off := 0) (off' := 0) rfl rfl Tryz.underlying24 rfl Tryz.sizeOf22 rfl) ?_
    refine RunL.still rfl rfl rfl (Still.load rfl rfl Tryz.isAgg22 (fun _ hs => cell_nth (hs.at (i := 1) rfl) rfl)) ?_
    refine RunL.still rfl rfl rfl (Still.lenSlice rfl rfl Tryz.underlying22) ?_
    refine RunL.still rfl rfl rfl (Still.lss rfl rfl rfl) ?_
    refine RunL.nil ?_
    refine Ends.then ?_
    refine RunC.cond rfl (fun h17 => ?_) (fun h17 => ?_)
    · have h17 := of_decide_eq_true h17
      obtain ⟨x, hx⟩ := get_of_lt (l := a) (i := i) (by omega)
      obtain ⟨y, hy⟩ := get_of_lt (l := b) (i := i) (by omega)
      refine RunC.skip ?_
      refine Ends.then ?_
      refine RunC.seq ?_
      refine RunC.block ?_
      refine RunC.seq ?_
      refine RunC.draw 10 (.still 0 (.still 1 (.still 2 (.still 3 (.still 4 (.still 5 (.still 6 (.still 7 (.still 8 (.still 9 .done)))))))))) (by kernel_rfl) (by kernel_rfl) ?_
      refine RunG.still rfl rfl rfl rfl (Still.fieldAddrL (off := 0) (off' := 0) rfl rfl Tryz.underlying24 rfl Tryz.sizeOf22 rfl) ?_
      refine RunG.still rfl rfl rfl rfl (Still.load rfl rfl Tryz.isAgg22 (fun _ hs => cell_nth (hs.at (i := 1) rfl) rfl)) ?_
      refine RunG.still rfl rfl rfl rfl (Still.move rfl rfl) ?_
      refine RunG.still rfl rfl rfl rfl (Still.indexSliceN rfl rfl rfl Tryz.underlying22 Tryz.sizeOf35 (hga.base (by omega)) (by omega)) ?_
      refine RunG.still rfl rfl rfl rfl (Still.loads rfl rfl Tryz.isAgg35 Tryz.sizeOf35 (vs := [iv x.f0.tet, iv x.f0.p.a0, iv x.f0.p.a1, iv x.f0.p.a2, iv x.f0.p.a3, iv x.f1.tet, iv x.f1.p.a0, iv x.f1.p.a1, iv x.f1.p.a2, iv x.f1.p.a3, iv x.f2.tet, iv x.f2.p.a0, iv x.f2.p.a1, iv x.f2.p.a2, iv x.f2.p.a3, iv x.f3.tet, iv x.f3.p.a0, iv x.f3.p.a1, iv x.f3.p.a2, iv x.f3.p.a3]) rfl (fun _ hs => (hga.sym hs).cell i x hx)) ?_
      refine RunG.still rfl rfl rfl rfl (Still.fieldAddrL (off := 0) (off' := 0) rfl rfl Tryz.underlying24 rfl Tryz.sizeOf22 rfl) ?_
      refine RunG.still rfl rfl rfl rfl (Still.load rfl rfl Tryz.isAgg22 (fun _ hs => cell_nth (hs.at (i := 0) rfl) rfl)) ?_
      refine RunG.still rfl rfl rfl rfl (Still.move rfl rfl) ?_
      refine RunG.still rfl rfl rfl rfl (Still.indexSliceN rfl rfl rfl Tryz.underlying22 Tryz.sizeOf35 (hgb.base (by omega)) (by omega)) ?_
      refine RunG.still rfl rfl rfl rfl (Still.loads rfl rfl Tryz.isAgg35 Tryz.sizeOf35 (vs := [iv y.f0.tet, iv y.f0.p.a0, iv y.f0.p.a1, iv y.f0.p.a2, iv y.f0.p.a3, iv y.f1.tet, iv y.f1.p.a0, iv y.f1.p.a1, iv y.f1.p.a2, iv y.f1.p.a3, iv y.f2.tet, iv y.f2.p.a0, iv y.f2.p.a1, iv y.f2.p.a2, iv y.f2.p.a3, iv y.f3.tet, iv y.f3.p.a0, iv y.f3.p.a1, iv y.f3.p.a2, iv y.f3.p.a3]) rfl (fun _ hs => (hgb.sym hs).cell i y hy)) ?_
      refine RunG.done ?_
      show RunL _ _ _ [_] _ _
      refine RunL.still rfl rfl rfl (Still.neqAgg rfl rfl rfl Tryz.eqGuardType35 (fun _ => eqT _ _ _ _)) ?_
      refine RunL.nil ?_
      refine Ends.then ?_
      refine RunC.cond rfl (fun h30 => ?_) (fun h30 => ?_)
      · have h30 : ¬ x = y := by simpa using h30
        refine RunC.seq ?_
        refine RunC.region ?_
        refine RunL.still rfl rfl rfl (Still.assign rfl rfl) ?_
        refine RunL.nil ?_
        refine Ends.then ?_
        refine RunC.ret ?_
        refine Ends.block_ret ?_
        refine Ends.then_ret ?_
        refine Ends.then_ret ?_
        refine Ends.block_ret ?_
        refine Ends.then_ret ?_
        refine Ends.leave (.inl rfl) (fun _ _ ok => results1 Tryz.results20 (Holds.tmp rfl) ok) (fun w2 hs => ?_)
        exact Ret.intro () trivial (congrArg Value.bool (decide_eq_false (fun e => h30 (by subst e; rw [hx] at hy; exact Option.some.inj hy))).symm) (HSub.nil _) hs
      · have h30 : x = y := by simpa using h30
        refine RunC.skip ?_
        refine Ends.block ?_
        refine Ends.then ?_
        refine RunC.region ?_
        refine RunL.still rfl rfl rfl (Still.move rfl rfl) ?_
        refine RunL.still rfl rfl rfl (Still.add rfl rfl rfl (fits64 (by omega) (by omega))) ?_
        refine RunL.still rfl rfl rfl (Still.assign rfl rfl) ?_
        refine RunL.nil ?_
        obtain rfl : x = y := h30
        refine Ends.again (i + 1) ?_ ?_ (Fr.Sub.app ?_ ?_) ?_
        · exact ⟨by omega, take_eq_succ htk hx hy⟩
        · show _ < _; omega
        · exact Fr.Sub.cons rfl (Fr.Sub.nil _)
        · exact Fr.Sub.cons rfl (Fr.Sub.cons rfl (Fr.Sub.nil _))
        · exact HSub.pick 0 rfl (HSub.pick 0 rfl (HSub.nil _))
    · have h17 := of_decide_eq_false h17
      obtain rfl : i = a.length := by omega
      refine RunC.exit ?_
      refine Ends.then_exit ?_
      refine Ends.then_exit ?_
      refine Ends.block_exit ?_
      refine Ends.then ?_
      refine RunC.seq ?_
      refine RunC.region ?_
      refine RunL.still rfl rfl rfl (Still.assign rfl rfl) ?_
      refine RunL.nil ?_
      refine Ends.then ?_
      refine RunC.ret ?_
      refine Ends.leave (.inl rfl) (fun _ _ ok => results1 Tryz.results20 (Holds.tmp rfl) ok) (fun w3 hs => ?_)
      exact Ret.intro () trivial (congrArg Value.bool (decide_eq_true (take_eq_all htk hl)).symm) (HSub.nil _) hs

theorem gl_Same (ba : Option Addr) (A : Addr) (ca : Nat) (a : Glu) (bb : Option Addr) (B : Addr) (cb : Nat) (b : Glu) (w : World) (hga : GluAt w ba A a) (hgb : GluAt w bb B b) : Gives Tryz.prog 27 #[gluV ba ca a, gluV bb cb b] w Nil (fun _ : Unit => True) (fun _ => .bool (decide (a = b))) (fun _ => []) := by
  refine fn_of_run (S := Nil) (args := [gluV ba ca a, gluV bb cb b]) (n := 10) (L := []) Tryz.func27 rfl Tryz.ntmps27 (Nat.le_of_ble_eq_true rfl) (Sym.nil _ _) ?_
  change RunC _ _ _ [(0, _), (1, _)] _
  refine RunC.seq ?_
  refine RunC.region ?_
  refine RunL.grows rfl rfl rfl (Grows.box rfl rfl) (fun b2 _ => ?_)
  refine RunL.grows rfl rfl rfl (Grows.box rfl rfl) (fun b3 _ => ?_)
  refine RunL.still rfl rfl rfl (Still.assign rfl rfl) ?_
  refine RunL.nil ?_
  refine Ends.then ?_
  refine RunC.seq ?_
  refine RunC.region ?_
  refine RunL.still rfl rfl rfl (Still.fieldAddrL (off := 0) (off' := 0) rfl rfl Tryz.underlying24 rfl Tryz.sizeOf22 rfl) ?_
  refine RunL.still rfl rfl rfl (Still.load rfl rfl Tryz.isAgg22 (fun _ hs => cell_nth (hs.at (i := 1) rfl) rfl)) ?_
  refine RunL.still rfl rfl rfl (Still.fieldAddrL (off := 0) (off' := 0) rfl rfl Tryz.underlying24 rfl Tryz.sizeOf22 rfl) ?_
  refine RunL.still rfl rfl rfl (Still.load rfl rfl Tryz.isAgg22 (fun _ hs => cell_nth (hs.at (i := 0) rfl) rfl)) ?_
  refine RunL.grows rfl rfl rfl (Grows.call (vs := #[_, _]) rfl rfl Tryz.call60 (fun w hs => gl_Equal ba A ca a bb B cb b w (hga.sym hs) (hgb.sym hs))) (fun _ _ => ?_)
  refine RunL.still rfl rfl rfl (Still.assign rfl rfl) ?_
  refine RunL.nil ?_
  refine Ends.then ?_
  refine RunC.ret ?_
  refine Ends.leave (.inl rfl) (fun _ _ ok => results1 Tryz.results27 (Holds.tmp rfl) ok) (fun w1 hs => ?_)
  exact Ret.intro () trivial rfl (HSub.nil _) hs

theorem rf_SameInts (v u : Value) (xs ys : List Int) (w : World) (hv : Shape v xs.length) (hc : Cells w (vaddr v) (ints xs)) (hl : xs.length ≤ 9223372036854775807) (hu : Shape u ys.length) (hd : Cells w (vaddr u) (ints ys)) (hl2 : ys.length ≤ 9223372036854775807) : Gives Tryz.prog 31 #[v, u] w Nil (fun _ : Unit => True) (fun _ => .bool (decide (xs = ys))) (fun _ => []) := by
  refine fn_of_run (S := Nil) (args := [v, u]) (n := 26) (L := []) Tryz.func31 rfl Tryz.ntmps31 (Nat.le_of_ble_eq_true rfl) (Sym.nil _ _) ?_
  change RunC _ _ _ [(0, _), (1, _)] _
  refine RunC.seq ?_
  refine RunC.region ?_
  refine RunL.still rfl rfl rfl (Still.assign rfl rfl) ?_
  refine RunL.nil ?_
  refine Ends.then ?_
  refine RunC.seq ?_
  refine RunC.seq ?_
  refine RunC.region ?_
  refine RunL.still rfl rfl rfl (Still.move rfl rfl) ?_
  refine RunL.still rfl rfl rfl (Still.lenV rfl rfl Tryz.underlying36 (hv)) ?_
  refine RunL.still rfl rfl rfl (Still.move rfl rfl) ?_
  refine RunL.still rfl rfl rfl (Still.lenV rfl rfl Tryz.underlying36 (hu)) ?_
  refine RunL.still rfl rfl rfl (Still.neq rfl rfl rfl) ?_
  refine RunL.nil ?_
  refine Ends.then ?_
  refine RunC.cond rfl (fun h10 => ?_) (fun h10 => ?_)
  · have h10 := of_decide_eq_true h10
    refine RunC.seq ?_
    refine RunC.region ?_
    refine RunL.still rfl rfl rfl (Still.assign rfl rfl) ?_
    refine RunL.nil ?_
    refine Ends.then ?_
    refine RunC.ret ?_
    refine Ends.then_ret ?_
    refine Ends.leave (.inl rfl) (fun _ _ ok => results1 Tryz.results31 (Holds.tmp rfl) ok) (fun w1 hs => ?_)
    exact Ret.intro () trivial (congrArg Value.bool (decide_eq_false (fun e => h10 (by rw [e]))).symm) (HSub.nil _) hs
  · have h10 := of_decide_eq_false h10
    have hl : xs.length = ys.length := by omega
    refine RunC.skip ?_
    refine Ends.then ?_
    refine RunC.seq ?_
    refine RunC.seq ?_
    refine RunC.region ?_
    refine RunL.still rfl rfl rfl (Still.assign rfl rfl) ?_
    refine RunL.nil ?_
    refine Ends.then ?_
    refine RunC.block ?_
    refine RunC.loop2 (γ := Nat) (keep := [(0, _), (1, _)]) (hkeep := []) (fun i => i ≤ xs.length ∧ xs.take i = ys.take i) (fun i => xs.length - i) (fun i => [(5, iv i)]) (fun i => []) 0 ⟨by omega, rfl⟩ (Fr.Sub.cons rfl (Fr.Sub.nil _)) (Fr.Sub.cons rfl (Fr.Sub.cons rfl (Fr.Sub.nil _))) (HSub.nil _) ?_
    rintro i ⟨hi, htk⟩
    refine RunC.seq ?_
    refine RunC.seq ?_
    refine RunC.region ?_
    refine RunL.still rfl rfl rfl (Still.move rfl rfl) ?_
    refine RunL.still rfl rfl rfl (Still.move rfl rfl) ?_
    refine RunL.still rfl rfl rfl (Still.lenV rfl rfl Tryz.underlying36 (hv)) ?_
    refine RunL.still rfl rfl rfl (Still.lss rfl rfl rfl) ?_
    refine RunL.nil ?_
    refine Ends.then ?_
    refine RunC.cond rfl (fun h14 => ?_) (fun h14 => ?_)
    · have h14 := of_decide_eq_true h14
      obtain ⟨x, hx⟩ := get_of_lt (l := xs) (i := i) (by omega)
      obtain ⟨y, hy⟩ := get_of_lt (l := ys) (i := i) (by omega)
      refine RunC.skip ?_
      refine Ends.then ?_
      refine RunC.seq ?_
      refine RunC.block ?_
      refine RunC.seq ?_
      refine RunC.draw 8 (.still 0 (.still 1 (.still 2 (.still 3 (.still 4 (.still 5 (.still 6 (.still 7 .done)))))))) (by kernel_rfl) (by kernel_rfl) ?_
      refine RunG.still rfl rfl rfl rfl (Still.move rfl rfl) ?_
      refine RunG.still rfl rfl rfl rfl (Still.move rfl rfl) ?_
      refine RunG.still rfl rfl rfl rfl (Still.indexV _ rfl rfl rfl Tryz.underlying36 Tryz.sizeOf3 (hv) (rfl) (by omega)) ?_
      refine RunG.still rfl rfl rfl rfl (Still.load rfl rfl Tryz.isAgg3 (fun _ hs => cells_at (Cells.base0 hc hs) (ints_get hx))) ?_
      refine RunG.still rfl rfl rfl rfl (Still.move rfl rfl) ?_
      refine RunG.still rfl rfl rfl rfl (Still.move rfl rfl) ?_
      refine RunG.still rfl rfl rfl rfl (Still.indexV _ rfl rfl rfl Tryz.underlying36 Tryz.sizeOf3 (hu) (rfl) (by omega)) ?_
      refine RunG.still rfl rfl rfl rfl (Still.load rfl rfl Tryz.isAgg3 (fun _ hs => cells_at (Cells.base0 hd hs) (ints_get hy))) ?_
      refine RunG.done ?_
      show RunL _ _ _ [_] _ _
      refine RunL.still rfl rfl rfl (Still.neq rfl rfl rfl) ?_
      refine RunL.nil ?_
      refine Ends.then ?_
      refine RunC.cond rfl (fun h25 => ?_) (fun h25 => ?_)
      · have h25 := of_decide_eq_true h25
        refine RunC.seq ?_
        refine RunC.region ?_
        refine RunL.still rfl rfl rfl (Still.assign rfl rfl) ?_
        refine RunL.nil ?_
        refine Ends.then ?_
        refine RunC.ret ?_
        refine Ends.block_ret ?_
        refine Ends.then_ret ?_
        refine Ends.then_ret ?_
        refine Ends.block_ret ?_
        refine Ends.then_ret ?_
        refine Ends.leave (.inl rfl) (fun _ _ ok => results1 Tryz.results31 (Holds.tmp rfl) ok) (fun w2 hs => ?_)
        exact Ret.intro () trivial (congrArg Value.bool (decide_eq_false (fun e => h25 (by subst e; rw [hx] at hy; exact Option.some.inj hy))).symm) (HSub.nil _) hs
      · have h25 := of_decide_eq_false h25
        refine RunC.skip ?_
        refine Ends.block ?_
        refine Ends.then ?_
        refine RunC.region ?_
        refine RunL.still rfl rfl rfl (Still.move rfl rfl) ?_
        refine RunL.still rfl rfl rfl (Still.add rfl rfl rfl (fits64 (by omega) (by omega))) ?_
        refine RunL.still rfl rfl rfl (Still.assign rfl rfl) ?_
        refine RunL.nil ?_
        obtain rfl : x = y := Decidable.not_not.1 h25
        refine Ends.again (i + 1) ?_ ?_ (Fr.Sub.app ?_ ?_) ?_
        · exact ⟨by omega, take_eq_succ htk hx hy⟩
        · show _ < _; omega
        · exact Fr.Sub.cons rfl (Fr.Sub.nil _)
        · exact Fr.Sub.cons rfl (Fr.Sub.cons rfl (Fr.Sub.nil _))
        · exact HSub.nil _
    · have h14 := of_decide_eq_false h14
      obtain rfl : i = xs.length := by omega
      refine RunC.exit ?_
      refine Ends.then_exit ?_
      refine Ends.then_exit ?_
      refine Ends.block_exit ?_
      refine Ends.then ?_
      refine RunC.seq ?_
      refine RunC.region ?_
      refine RunL.still rfl rfl rfl (Still.assign rfl rfl) ?_
      refine RunL.nil ?_
      refine Ends.then ?_
      refine RunC.ret ?_
      refine Ends.leave (.inl rfl) (fun _ _ ok => results1 Tryz.results31 (Holds.tmp rfl) ok) (fun w3 hs => ?_)
      exact Ret.intro () trivial (congrArg Value.bool (decide_eq_true (take_eq_all htk hl)).symm) (HSub.nil _) hs

/-- How many parts a list of numbers names. -/
def cntTo (xs : List Int) : Nat → Int
  | 0 => 0
  | i + 1 => max (cntTo xs i) (xs.getD i 0 + 1)
theorem cntTo_succ {xs : List Int} {i : Nat} {y : Int} (h : xs[i]? = some y) : cntTo xs (i + 1) = max (cntTo xs i) (y + 1) := by rw [cntTo, List.getD_eq_getElem?_getD, h]; rfl

theorem lw_count (v : Value) (xs : List Int) (w : World) (hv : Shape v xs.length) (hc : Cells w (vaddr v) (ints xs)) (hl : xs.length ≤ 9223372036854775807) (hb : ∀ x ∈ xs, 0 ≤ x ∧ x ≤ 2000) : Gives Tryz.prog 17 #[v] w Nil (fun _ : Unit => True) (fun _ => iv (cntTo xs xs.length)) (fun _ => []) := by
  refine fn_of_run (S := Nil) (args := [v]) (n := 19) (L := []) Tryz.func17 rfl Tryz.ntmps17 (Nat.le_of_ble_eq_true rfl) (Sym.nil _ _) ?_
  change RunC _ _ _ [(0, _)] _
  refine RunC.seq ?_
  refine RunC.region ?_
  refine RunL.still rfl rfl rfl (Still.assign rfl rfl) ?_
  refine RunL.nil ?_
  refine Ends.then ?_
  refine RunC.seq ?_
  refine RunC.region ?_
  refine RunL.still rfl rfl rfl (Still.assign rfl rfl) ?_
  refine RunL.nil ?_
  refine Ends.then ?_
  refine RunC.seq ?_
  refine RunC.seq ?_
  refine RunC.region ?_
  refine RunL.still rfl rfl rfl (Still.assign rfl rfl) ?_
  refine RunL.nil ?_
  refine Ends.then ?_
  refine RunC.block ?_
  refine RunC.loop2 (γ := Nat) (keep := [(0, _)]) (hkeep := []) (fun i => i ≤ xs.length) (fun i => xs.length - i) (fun i => [(3, iv (cntTo xs i)), (4, iv i)]) (fun i => []) 0 (by omega) (Fr.Sub.cons rfl (Fr.Sub.cons rfl (Fr.Sub.nil _))) (Fr.Sub.cons rfl (Fr.Sub.nil _)) (HSub.nil _) ?_
  rintro i hi
  refine RunC.seq ?_
  refine RunC.seq ?_
  refine RunC.region ?_
  refine RunL.still rfl rfl rfl (Still.move rfl rfl) ?_
  refine RunL.still rfl rfl rfl (Still.move rfl rfl) ?_
  refine RunL.still rfl rfl rfl (Still.lenV rfl rfl Tryz.underlying36 (hv)) ?_
  refine RunL.still rfl rfl rfl (Still.lss rfl rfl rfl) ?_
  refine RunL.nil ?_
  refine Ends.then ?_
  refine RunC.cond rfl (fun h8 => ?_) (fun h8 => ?_)
  · have h8 := of_decide_eq_true h8
    obtain ⟨y, hy⟩ := get_of_lt (l := xs) (i := i) (by omega)
    have hyb := hb y (List.mem_of_getElem? hy)
    refine RunC.skip ?_
    refine Ends.then ?_
    refine RunC.seq ?_
    refine RunC.block ?_
    refine RunC.region ?_
    refine RunL.still rfl rfl rfl (Still.move rfl rfl) ?_
    refine RunL.still rfl rfl rfl (Still.move rfl rfl) ?_
    refine RunL.still rfl rfl rfl (Still.move rfl rfl) ?_
    refine RunL.still rfl rfl rfl (Still.indexV _ rfl rfl rfl Tryz.underlying36 Tryz.sizeOf3 (hv) (rfl) (by omega)) ?_
    refine RunL.still rfl rfl rfl (Still.load rfl rfl Tryz.isAgg3 (fun _ hs => cells_at (Cells.base0 hc hs) (ints_get hy))) ?_
    refine RunL.still rfl rfl rfl (Still.add rfl rfl rfl (fits64 (by omega) (by omega))) ?_
    refine RunL.still rfl rfl rfl (Still.max rfl rfl rfl) ?_
    refine RunL.still rfl rfl rfl (Still.assign rfl rfl) ?_
    refine RunL.nil ?_
    refine Ends.block ?_
    refine Ends.then ?_
    refine RunC.region ?_
    refine RunL.still rfl rfl rfl (Still.move rfl rfl) ?_
    refine RunL.still rfl rfl rfl (Still.add rfl rfl rfl (fits64 (by omega) (by omega))) ?_
    refine RunL.still rfl rfl rfl (Still.assign rfl rfl) ?_
    refine RunL.nil ?_
    refine Ends.again (i + 1) ?_ ?_ (Fr.Sub.app ?_ ?_) ?_
    · show _; omega
    · show _ < _; omega
    · exact Fr.Sub.cons (by rw [cntTo_succ hy]; rfl) (Fr.Sub.cons rfl (Fr.Sub.nil _))
    · exact Fr.Sub.cons rfl (Fr.Sub.nil _)
    · exact HSub.nil _
  · have h8 := of_decide_eq_false h8
    obtain rfl : i = xs.length := by omega
    refine RunC.exit ?_
    refine Ends.then_exit ?_
    refine Ends.then_exit ?_
    refine Ends.block_exit ?_
    refine Ends.then ?_
    refine RunC.seq ?_
    refine RunC.region ?_
    refine RunL.still rfl rfl rfl (Still.move rfl rfl) ?_
    refine RunL.still rfl rfl rfl (Still.assign rfl rfl) ?_
    refine RunL.nil ?_
    refine Ends.then ?_
    refine RunC.ret ?_
    refine Ends.leave (.inl rfl) (fun _ _ ok => results1 Tryz.results17 (Holds.tmp rfl) ok) (fun w1 hs => ?_)
    exact Ret.intro () trivial rfl (HSub.nil _) hs

end Go.Proofs
/- Renumbered gluings: contracts of both texts. -/
namespace Go.Proofs
open Go Go.V
set_option maxRecDepth 20000
end Go.Proofs
/- What is read of the text of the gluing with one tetrahedron. -/
namespace Go.V
open Go
def trimL (s : ByteArray) : ByteArray := ⟨(Lib.trimLeftB s.data.toList 32).toArray⟩
def wW (s : ByteArray) : ByteArray := ⟨(Lib.cut (trimL s).data.toList spS.data.toList).1.toArray⟩
def wR (s : ByteArray) : ByteArray := ⟨(Lib.cut (trimL s).data.toList spS.data.toList).2.1.toArray⟩
def digS : ByteArray := ⟨#[48, 49, 50, 51, 52, 53, 54, 55, 56, 57]⟩
def digT (s : ByteArray) : ByteArray := ⟨(Lib.trimLeftS s.data.toList digS.data.toList).toArray⟩
def digB (s : ByteArray) : ByteArray := ⟨(Lib.trimS s.data.toList digS.data.toList).toArray⟩
/-- The next word is there. -/
structure WStep (s : ByteArray) : Prop where
  size : (trimL s).size ≤ 2000
  ne : ¬ wW s = ⟨#[]⟩
/-- A glued face is read. -/
structure FStep (s : ByteArray) (x : Fc) : Prop where
  w : WStep s
  w2 : WStep (wR s)
  dash : ¬ wW s = dashS
  dig : digT (wW s) = ⟨#[]⟩
  one : (wW s).size = 1
  num : Num (wW s) x.tet
  four : (wW (wR s)).size = 4
  digs : digB (wW (wR s)) = ⟨#[]⟩
  at' : ∀ i, i < 4 → x.p.at i = (byteAt (wW (wR s)) i : Int) - 48
  lo : ∀ i, i < 4 → 48 ≤ byteAt (wW (wR s)) i
def fTo (x : Fc) (i : Nat) : Array Value := #[iv x.tet, iv (if 0 < i then x.p.a0 else 0), iv (if 1 < i then x.p.a1 else 0), iv (if 2 < i then x.p.a2 else 0), iv (if 3 < i then x.p.a3 else 0)]
theorem fTo_set (x : Fc) {i : Nat} (hi : i < 4) {v : Int} (e : v = x.p.at i) : (fTo x i).setIfInBounds (1 + i * 1) (iv v) = fTo x (i + 1) := by
  subst e
  match i, hi with
  | 0, _ => rfl
  | 1, _ => rfl
  | 2, _ => rfl
  | 3, _ => rfl
def tOne : Tt := ⟨⟨0, ⟨1, 0, 2, 3⟩⟩, ⟨0, ⟨1, 0, 2, 3⟩⟩, ⟨0, ⟨0, 1, 3, 2⟩⟩, ⟨0, ⟨0, 1, 3, 2⟩⟩⟩
def gOne : Glu := [tOne]
def txtOne : ByteArray := ⟨#[49, 32, 48, 32, 49, 48, 50, 51, 32, 48, 32, 49, 48, 50, 51, 32, 48, 32, 48, 49, 51, 50, 32, 48, 32, 48, 49, 51, 50]⟩
/-- What is left ahead of a face. -/
def restAt : Nat → ByteArray
  | 0 => wR txtOne
  | k + 1 => wR (wR (restAt k))
theorem one_w : WStep txtOne := ⟨by decide +kernel, by decide +kernel⟩
theorem one_num : Num (wW txtOne) 1 := ⟨by decide, by decide, by decide +kernel⟩
theorem one_face {f : Nat} (hf : f < 4) : FStep (restAt f) (tOne.at f) := by
  match f, hf with
  | 0, _ => exact ⟨⟨by decide +kernel, by decide +kernel⟩, ⟨by decide +kernel, by decide +kernel⟩, by decide +kernel, by decide +kernel, by decide +kernel, ⟨by decide, by decide, by decide +kernel⟩, by decide +kernel, by decide +kernel, by decide +kernel, by decide +kernel⟩
  | 1, _ => exact ⟨⟨by decide +kernel, by decide +kernel⟩, ⟨by decide +kernel, by decide +kernel⟩, by decide +kernel, by decide +kernel, by decide +kernel, ⟨by decide, by decide, by decide +kernel⟩, by decide +kernel, by decide +kernel, by decide +kernel, by decide +kernel⟩
  | 2, _ => exact ⟨⟨by decide +kernel, by decide +kernel⟩, ⟨by decide +kernel, by decide +kernel⟩, by decide +kernel, by decide +kernel, by decide +kernel, ⟨by decide, by decide, by decide +kernel⟩, by decide +kernel, by decide +kernel, by decide +kernel, by decide +kernel⟩
  | 3, _ => exact ⟨⟨by decide +kernel, by decide +kernel⟩, ⟨by decide +kernel, by decide +kernel⟩, by decide +kernel, by decide +kernel, by decide +kernel, ⟨by decide, by decide, by decide +kernel⟩, by decide +kernel, by decide +kernel, by decide +kernel, by decide +kernel⟩
theorem one_end : (⟨(Lib.trimB (restAt 4).data.toList 32).toArray⟩ : ByteArray) = ⟨#[]⟩ := by decide +kernel
theorem one_end_size : (restAt 4).size ≤ 2000 := by decide +kernel
theorem one_text : textG gOne = txtOne := by decide +kernel
theorem one_ok : okG gOne = true := by decide +kernel
/-- The row that is filled. -/
def rowTo : Nat → Tt
  | 0 => ⟨⟨0, ⟨0, 0, 0, 0⟩⟩, ⟨0, ⟨0, 0, 0, 0⟩⟩, ⟨0, ⟨0, 0, 0, 0⟩⟩, ⟨0, ⟨0, 0, 0, 0⟩⟩⟩
  | f + 1 => (rowTo f).setF f (tOne.at f)
theorem rowTo_set {f : Nat} (hf : f < 4) : putAll (ttA (rowTo f)) (0 + f * 5) [iv (tOne.at f).tet, iv (tOne.at f).p.a0, iv (tOne.at f).p.a1, iv (tOne.at f).p.a2, iv (tOne.at f).p.a3] = ttA (rowTo (f + 1)) := ttA_fc _ hf _
def tFree : Tt := ⟨noF, noF, noF, noF⟩
def gFree : Glu := [tFree]
def gBad : Glu := [⟨⟨0, idP⟩, noF, noF, noF⟩]
theorem free_ok : okG gFree = true := by decide +kernel
theorem bad_no : okG gBad = false := by decide +kernel
def txtTwo : ByteArray := ⟨#[50, 32, 48, 32, 49, 48, 50, 51, 32, 48, 32, 49, 48, 50, 51, 32, 48, 32, 48, 49, 51, 50, 32, 48, 32, 48, 49, 51, 50, 32, 49, 32, 49, 48, 50, 51, 32, 49, 32, 49, 48, 50, 51, 32, 49, 32, 48, 49, 51, 50, 32, 49, 32, 48, 49, 51, 50]⟩
def txtDbl : ByteArray := ⟨#[50, 32, 49, 32, 48, 49, 50, 51, 32, 49, 32, 48, 49, 50, 51, 32, 49, 32, 48, 49, 50, 51, 32, 49, 32, 48, 49, 50, 51, 32, 48, 32, 48, 49, 50, 51, 32, 48, 32, 48, 49, 50, 51, 32, 48, 32, 48, 49, 50, 51, 32, 48, 32, 48, 49, 50, 51]⟩
theorem two_ok : okG (twoG gOne) = true := by decide +kernel
theorem dbl_ok : okG (dblG gFree) = true := by decide +kernel
theorem two_text : textG (twoG gOne) = txtTwo := by decide +kernel
theorem dbl_text : textG (dblG gFree) = txtDbl := by decide +kernel
theorem one_ori : oriG gOne = some [1] := by decide +kernel
end Go.V
/- The example with one tetrahedron: made, and read from its text. -/
namespace Go.Proofs
open Go Go.V
set_option maxRecDepth 20000
theorem in_iface20 : Tryz.prog.underlying 20 = some (.interface (Tryz.prog.methodsAt 20)) := Tryz.underlying20.trans (by kernel_rfl)
theorem in_iface108 : Tryz.prog.underlying 108 = some (.interface (Tryz.prog.methodsAt 108)) := Tryz.underlying108.trans (by kernel_rfl)

theorem lw_One (w : World) : Gives Tryz.prog 39 #[] w Nil (fun _ : Nat => True) (fun b => gluV (some ⟨b, 0, none⟩) 1 gOne) (fun b => [ownG (some ⟨b, 0, none⟩, 1) gOne]) := by
  refine fn_of_run (S := Nil) (args := []) (n := 16) (L := []) Tryz.func39 rfl Tryz.ntmps39 (Nat.le_of_ble_eq_true rfl) (Sym.nil _ _) ?_
  change RunC _ _ _ [] _
  refine RunC.seq ?_
  refine RunC.region ?_
  refine RunL.grows rfl rfl rfl (Grows.alloc rfl Tryz.zeroValue24) (fun b0 _ => ?_)
  refine RunL.nil ?_
  refine Ends.then ?_
  refine RunC.seq ?_
  refine RunC.region ?_
  refine RunL.still rfl rfl rfl (Still.build_1_1_1_1 (fun x0_0 x1_0 x2_0 x3_0 => .agg #[x0_0, x1_0, x2_0, x3_0]) rfl rfl rfl rfl rfl (fun _ => by kernel_rfl)) ?_
  refine RunL.grows rfl rfl rfl (Grows.alloc rfl Tryz.zeroValue32) (fun b1 _ => ?_)
  refine RunL.does0 rfl rfl (Does.store rfl rfl rfl (i := 0) rfl Tryz.sizeOf32 rfl (rfl) rfl) (fun _ _ => ?_)
  refine RunL.conv (fun _ hs => hs.re 0 rfl (show _ = HL.obj b1 (.cells #[iv 1, iv 0, iv 2, iv 3] 32 (0, 0)) from rfl)) ?_
  refine RunL.nil ?_
  refine Ends.then ?_
  refine RunC.seq ?_
  refine RunC.region ?_
  refine RunL.still rfl rfl rfl (Still.build_1_1_1_1 (fun x0_0 x1_0 x2_0 x3_0 => .agg #[x0_0, x1_0, x2_0, x3_0]) rfl rfl rfl rfl rfl (fun _ => by kernel_rfl)) ?_
  refine RunL.grows rfl rfl rfl (Grows.alloc rfl Tryz.zeroValue32) (fun b2 _ => ?_)
  refine RunL.does0 rfl rfl (Does.store rfl rfl rfl (i := 0) rfl Tryz.sizeOf32 rfl (rfl) rfl) (fun _ _ => ?_)
  refine RunL.conv (fun _ hs => hs.re 0 rfl (show _ = HL.obj b2 (.cells #[iv 0, iv 1, iv 3, iv 2] 32 (0, 0)) from rfl)) ?_
  refine RunL.nil ?_
  refine Ends.then ?_
  refine RunC.seq ?_
  refine RunC.region ?_
  refine RunL.still rfl rfl rfl (Still.loads rfl rfl Tryz.isAgg32 Tryz.sizeOf32 (vs := [_, _, _, _]) rfl (fun _ hs => cells_nth (hs.at (i := 1) rfl) ⟨rfl, ⟨rfl, ⟨rfl, ⟨rfl, trivial⟩⟩⟩⟩)) ?_
  refine RunL.still rfl rfl rfl (Still.build_1_4 (fun x0_0 x1_0 x1_1 x1_2 x1_3 => .agg #[x0_0, x1_0, x1_1, x1_2, x1_3]) rfl rfl rfl (fun _ => by kernel_rfl)) ?_
  refine RunL.still rfl rfl rfl (Still.loads rfl rfl Tryz.isAgg32 Tryz.sizeOf32 (vs := [_, _, _, _]) rfl (fun _ hs => cells_nth (hs.at (i := 1) rfl) ⟨rfl, ⟨rfl, ⟨rfl, ⟨rfl, trivial⟩⟩⟩⟩)) ?_
  refine RunL.still rfl rfl rfl (Still.build_1_4 (fun x0_0 x1_0 x1_1 x1_2 x1_3 => .agg #[x0_0, x1_0, x1_1, x1_2, x1_3]) rfl rfl rfl (fun _ => by kernel_rfl)) ?_
  refine RunL.still rfl rfl rfl (Still.loads rfl rfl Tryz.isAgg32 Tryz.sizeOf32 (vs := [_, _, _, _]) rfl (fun _ hs => cells_nth (hs.at (i := 0) rfl) ⟨rfl, ⟨rfl, ⟨rfl, ⟨rfl, trivial⟩⟩⟩⟩)) ?_
  refine RunL.still rfl rfl rfl (Still.build_1_4 (fun x0_0 x1_0 x1_1 x1_2 x1_3 => .agg #[x0_0, x1_0, x1_1, x1_2, x1_3]) rfl rfl rfl (fun _ => by kernel_rfl)) ?_
  refine RunL.still rfl rfl rfl (Still.loads rfl rfl Tryz.isAgg32 Tryz.sizeOf32 (vs := [_, _, _, _]) rfl (fun _ hs => cells_nth (hs.at (i := 0) rfl) ⟨rfl, ⟨rfl, ⟨rfl, ⟨rfl, trivial⟩⟩⟩⟩)) ?_
  refine RunL.still rfl rfl rfl (Still.build_1_4 (fun x0_0 x1_0 x1_1 x1_2 x1_3 => .agg #[x0_0, x1_0, x1_1, x1_2, x1_3]) rfl rfl rfl (fun _ => by kernel_rfl)) ?_
  refine RunL.still rfl rfl rfl (Still.build_5_5_5_5 (fun x0_0 x0_1 x0_2 x0_3 x0_4 x1_0 x1_1 x1_2 x1_3 x1_4 x2_0 x2_1 x2_2 x2_3 x2_4 x3_0 x3_1 x3_2 x3_3 x3_4 => .agg #[x0_0, x0_1, x0_2, x0_3, x0_4, x1_0, x1_1, x1_2, x1_3, x1_4, x2_0, x2_1, x2_2, x2_3, x2_4, x3_0, x3_1, x3_2, x3_3, x3_4]) rfl rfl rfl rfl rfl (fun _ => by kernel_rfl)) ?_
  refine RunL.grows rfl rfl rfl (Grows.slice1 rfl rfl Tryz.underlying22 Tryz.sizeOf35 rfl Tryz.zeroValue35 (by decide)) (fun b14 _ => ?_)
  refine RunL.conv (fun _ hs => Sym.obj_own (k := 20) (n := 1) hs rfl (by omega)) ?_
  refine RunL.still rfl rfl rfl (Still.build_1 (fun x0_0 => .agg #[x0_0]) rfl rfl (fun _ => by kernel_rfl)) ?_
  refine RunL.does0 rfl rfl (Does.store rfl rfl rfl (i := 3) rfl Tryz.sizeOf24 rfl (rfl) rfl) (fun _ _ => ?_)
  refine RunL.nil ?_
  refine Ends.then ?_
  refine RunC.ret ?_
  refine Ends.leave (.inl rfl) (fun _ _ ok => results1 Tryz.results39 (Holds.cell rfl (fun _ hs => load_cells (vs := [_]) Tryz.isAgg24 Tryz.sizeOf24 rfl (cells_nth (hs.at (i := 3) rfl) ⟨rfl, trivial⟩))) ok) (fun w1 hs => ?_)
  exact Ret.intro b14 trivial rfl (HSub.pick 0 rfl (HSub.nil _)) hs

theorem gl_word (b : Nat) (s : ByteArray) (w : World) (hr : (HL.obj b (.cells #[.string s] 91 (0, 0))).holds w) (hb : b < w.heap.size) {w00 : World} (he : Env w00) (hO : Old Nil w00 w) (hf0 : w00.heap.size ≤ b) (hw : WStep s) : Gives Tryz.prog 65 #[ptrV b] w (fun c => c = b) (fun _ : Unit => True) (fun _ => .string (wW s)) (fun _ => [HL.obj b (.cells #[.string (wR s)] 91 (0, 0))]) := by
  refine fn_of_run (S := (fun c => c = b)) (args := [ptrV b]) (n := 32) (L := [HL.obj b (.cells #[.string s] 91 (0, 0))]) Tryz.func65 rfl Tryz.ntmps65 (Nat.le_of_ble_eq_true rfl) (Sym.own1 hr (fun c hc => by have e : c = b := hc; omega)) ?_
  change RunC _ _ _ [(0, _)] _
  refine RunC.seq ?_
  refine RunC.region ?_
  refine RunL.still rfl rfl rfl (Still.assign rfl rfl) ?_
  refine RunL.nil ?_
  refine Ends.then ?_
  refine RunC.seq ?_
  refine RunC.region ?_
  refine RunL.still rfl rfl rfl (Still.move rfl rfl) ?_
  refine RunL.still rfl rfl rfl (Still.move rfl rfl) ?_
  refine RunL.still rfl rfl rfl (Still.nilCheck rfl rfl) ?_
  refine RunL.still rfl rfl rfl (Still.fieldAddrL (off := 0) (off' := 0) rfl rfl Tryz.underlying89 rfl Tryz.sizeOf9 rfl) ?_
  refine RunL.still rfl rfl rfl (Still.load rfl rfl Tryz.isAgg9 (fun _ hs => cell_nth (hs.at (i := 0) rfl) rfl)) ?_
  refine RunL.grows rfl rfl rfl (Grows.call (vs := #[_, _]) rfl rfl Tryz.call77 (fun w hs => z_TrimLeft1 s w)) (fun _ _ => ?_)
  refine RunL.still rfl rfl rfl (Still.nilCheck rfl rfl) ?_
  refine RunL.still rfl rfl rfl (Still.fieldAddrL (off := 0) (off' := 0) rfl rfl Tryz.underlying89 rfl Tryz.sizeOf9 rfl) ?_
  refine RunL.does0 rfl rfl (Does.store1 rfl rfl rfl (i := 0) rfl Tryz.sizeOf9 (rfl) (rfl)) (fun _ _ => ?_)
  refine RunL.nil ?_
  refine Ends.then ?_
  refine RunC.seq ?_
  refine RunC.region ?_
  refine RunL.still rfl rfl rfl (Still.move rfl rfl) ?_
  refine RunL.still rfl rfl rfl (Still.nilCheck rfl rfl) ?_
  refine RunL.still rfl rfl rfl (Still.fieldAddrL (off := 0) (off' := 0) rfl rfl Tryz.underlying89 rfl Tryz.sizeOf9 rfl) ?_
  refine RunL.still rfl rfl rfl (Still.load rfl rfl Tryz.isAgg9 (fun _ hs => cell_nth (hs.at (i := 0) rfl) rfl)) ?_
  refine RunL.grows rfl rfl rfl (Grows.call (vs := #[_, _]) rfl rfl Tryz.call78 (fun w hs => z_Cut (trimL s) spS w (he.old (hs.outer hO (fun c hc => .inl (by have e : c = b := hc; omega)))) (by have := hw.size; omega))) (fun _ _ => ?_)
  refine RunL.still rfl rfl rfl (Still.move rfl rfl) ?_
  refine RunL.still rfl rfl rfl (Still.extractN rfl rfl rfl) ?_
  refine RunL.still rfl rfl rfl (Still.extractN rfl rfl rfl) ?_
  refine RunL.still rfl rfl rfl (Still.extractN rfl rfl rfl) ?_
  refine RunL.still rfl rfl rfl (Still.assign rfl rfl) ?_
  refine RunL.still rfl rfl rfl (Still.assign rfl rfl) ?_
  refine RunL.still rfl rfl rfl (Still.assign rfl rfl) ?_
  refine RunL.nil ?_
  refine Ends.then ?_
  refine RunC.seq ?_
  refine RunC.seq ?_
  refine RunC.region ?_
  refine RunL.still rfl rfl rfl (Still.move rfl rfl) ?_
  refine RunL.still rfl rfl rfl (Still.eqlStrD rfl rfl rfl) ?_
  refine RunL.nil ?_
  refine Ends.then ?_
  refine RunC.cond rfl (fun h24 => ?_) (fun h24 => ?_)
  · have h24 := of_decide_eq_true h24
    exact absurd h24 hw.ne
  · have h24 := of_decide_eq_false h24
    refine RunC.skip ?_
    refine Ends.then ?_
    refine RunC.seq ?_
    refine RunC.region ?_
    refine RunL.still rfl rfl rfl (Still.move rfl rfl) ?_
    refine RunL.still rfl rfl rfl (Still.move rfl rfl) ?_
    refine RunL.still rfl rfl rfl (Still.nilCheck rfl rfl) ?_
    refine RunL.still rfl rfl rfl (Still.fieldAddrL (off := 0) (off' := 0) rfl rfl Tryz.underlying89 rfl Tryz.sizeOf9 rfl) ?_
    refine RunL.does0 rfl rfl (Does.store1 rfl rfl rfl (i := 0) rfl Tryz.sizeOf9 (rfl) (rfl)) (fun _ _ => ?_)
    refine RunL.nil ?_
    refine Ends.then ?_
    refine RunC.seq ?_
    refine RunC.region ?_
    refine RunL.still rfl rfl rfl (Still.move rfl rfl) ?_
    refine RunL.still rfl rfl rfl (Still.assign rfl rfl) ?_
    refine RunL.nil ?_
    refine Ends.then ?_
    refine RunC.ret ?_
    refine Ends.leave (.inl rfl) (fun _ _ ok => results1 Tryz.results65 (Holds.tmp rfl) ok) (fun w1 hs => ?_)
    exact Ret.intro () trivial rfl (HSub.pick 0 rfl (HSub.nil _)) hs

theorem gl_number (b : Nat) (s : ByteArray) (v most : Int) (w : World) (he : Env w) (hv : Num s v) (hm : v ≤ most) : Gives Tryz.prog 64 #[ptrV b, .string s, iv most] w Nil (fun _ : Unit => True) (fun _ => iv v) (fun _ => []) := by
  have hz := hv.size
  refine fn_of_run (S := Nil) (args := [ptrV b, .string s, iv most]) (n := 34) (L := []) Tryz.func64 rfl Tryz.ntmps64 (Nat.le_of_ble_eq_true rfl) (Sym.nil _ _) ?_
  change RunC _ _ _ [(0, _), (1, _), (2, _)] _
  refine RunC.seq ?_
  refine RunC.region ?_
  refine RunL.still rfl rfl rfl (Still.assign rfl rfl) ?_
  refine RunL.nil ?_
  refine Ends.then ?_
  refine RunC.seq ?_
  refine RunC.region ?_
  refine RunL.still rfl rfl rfl (Still.move rfl rfl) ?_
  refine RunL.grows rfl rfl rfl (Grows.call (vs := #[_]) rfl rfl Tryz.call76 (fun w hs => z_Atoi s v w (by omega) hv.atoi)) (fun _ _ => ?_)
  refine RunL.still rfl rfl rfl (Still.move rfl rfl) ?_
  refine RunL.still rfl rfl rfl (Still.extractN rfl rfl rfl) ?_
  refine RunL.still rfl rfl rfl (Still.extractN rfl rfl rfl) ?_
  refine RunL.still rfl rfl rfl (Still.assign rfl rfl) ?_
  refine RunL.still rfl rfl rfl (Still.assign rfl rfl) ?_
  refine RunL.nil ?_
  refine Ends.then ?_
  refine RunC.seq ?_
  refine RunC.seq ?_
  refine RunC.region ?_
  refine RunL.still rfl rfl rfl (Still.move rfl rfl) ?_
  refine RunL.still rfl rfl rfl (Still.neqNilN rfl rfl in_iface108) ?_
  refine RunL.still rfl rfl rfl (Still.move rfl rfl) ?_
  refine RunL.still rfl rfl rfl (Still.move rfl rfl) ?_
  refine RunL.grows rfl rfl rfl (Grows.call (vs := #[_]) rfl rfl Tryz.call57 (fun w hs => z_ItoaP v w (he.sym hs) hv.1 (by have := hv.2.1; omega))) (fun _ _ => ?_)
  refine RunL.still rfl rfl rfl (Still.move rfl rfl) ?_
  refine RunL.still rfl rfl rfl (Still.neqStrD rfl rfl rfl) ?_
  refine RunL.still rfl rfl rfl (Still.pickF rfl rfl rfl) ?_
  refine RunL.still rfl rfl rfl (Still.move rfl rfl) ?_
  refine RunL.split (t := 22) rfl (fun h22 => ?_) (fun h22 => ?_)
  · have h22 := of_decide_eq_true h22
    exact absurd hv.2.2.symm h22
  · have h22 := of_decide_eq_false h22
    refine RunL.still rfl rfl rfl (Still.move rfl rfl) ?_
    refine RunL.still rfl rfl rfl (Still.lss rfl rfl rfl) ?_
    refine RunL.still rfl rfl rfl (Still.pickF rfl rfl rfl) ?_
    refine RunL.still rfl rfl rfl (Still.move rfl rfl) ?_
    refine RunL.split (t := 26) rfl (fun h26 => ?_) (fun h26 => ?_)
    · have h26 := of_decide_eq_true h26
      have h1 := hv.1; omega
    · have h26 := of_decide_eq_false h26
      refine RunL.still rfl rfl rfl (Still.move rfl rfl) ?_
      refine RunL.still rfl rfl rfl (Still.move rfl rfl) ?_
      refine RunL.still rfl rfl rfl (Still.gtr rfl rfl rfl) ?_
      refine RunL.still rfl rfl rfl (Still.pickF rfl rfl rfl) ?_
      refine RunL.nil ?_
      refine Ends.then ?_
      refine RunC.cond rfl (fun h30 => ?_) (fun h30 => ?_)
      · have h30 := of_decide_eq_true h30
        omega
      · have h30 := of_decide_eq_false h30
        refine RunC.skip ?_
        refine Ends.then ?_
        refine RunC.seq ?_
        refine RunC.region ?_
        refine RunL.still rfl rfl rfl (Still.move rfl rfl) ?_
        refine RunL.still rfl rfl rfl (Still.assign rfl rfl) ?_
        refine RunL.nil ?_
        refine Ends.then ?_
        refine RunC.ret ?_
        refine Ends.leave (.inl rfl) (fun _ _ ok => results1 Tryz.results64 (Holds.tmp rfl) ok) (fun w1 hs => ?_)
        exact Ret.intro () trivial rfl (HSub.nil _) hs

theorem gl_face (b : Nat) (s : ByteArray) (x : Fc) (w : World) (hr : (HL.obj b (.cells #[.string s] 91 (0, 0))).holds w) (hb : b < w.heap.size) {w00 : World} (he : Env w00) (hO : Old Nil w00 w) (hf0 : w00.heap.size ≤ b) (hx : FStep s x) : Gives Tryz.prog 66 #[ptrV b] w (fun c => c = b) (fun _ : Unit => True) (fun _ => fcV x) (fun _ => [HL.obj b (.cells #[.string (wR (wR s))] 91 (0, 0))]) := by
  have hnum := hx.num
  have h1s := hx.one
  refine fn_of_run (S := (fun c => c = b)) (args := [ptrV b]) (n := 66) (L := [HL.obj b (.cells #[.string s] 91 (0, 0))]) Tryz.func66 rfl Tryz.ntmps66 (Nat.le_of_ble_eq_true rfl) (Sym.own1 hr (fun c hc => by have e : c = b := hc; omega)) ?_
  change RunC _ _ _ [(0, _)] _
  refine RunC.seq ?_
  refine RunC.region ?_
  refine RunL.grows rfl rfl rfl (Grows.alloc rfl Tryz.zeroValue34) (fun b2 _ => ?_)
  refine RunL.nil ?_
  refine Ends.then ?_
  refine RunC.seq ?_
  refine RunC.region ?_
  refine RunL.still rfl rfl rfl (Still.move rfl rfl) ?_
  refine RunL.still rfl rfl rfl (Still.nilCheck rfl rfl) ?_
  refine RunL.still rfl rfl rfl (Still.fieldAddrL (off := 0) (off' := 0) rfl rfl Tryz.underlying91 rfl Tryz.sizeOf89 rfl) ?_
  refine RunL.does rfl rfl rfl (Does.call (vs := #[_]) (K := [_]) (R := [_]) (S' := (fun c => c = b)) rfl rfl Tryz.call65 (HSub.pick 1 rfl (HSub.pick 0 rfl (HSub.nil _))) (fun c hc => ⟨_, List.mem_cons_self .., hc⟩) (fun w hs => gl_word b s w (hs.at (i := 0) rfl) (hs.lt (i := 0) rfl) he (hs.outer hO (fun c hc => .inl (by have e : c = b := hc; omega))) hf0 hx.w)) (fun _ _ => ?_)
  refine RunL.still rfl rfl rfl (Still.assign rfl rfl) ?_
  refine RunL.nil ?_
  refine Ends.then ?_
  refine RunC.seq ?_
  refine RunC.seq ?_
  refine RunC.region ?_
  refine RunL.still rfl rfl rfl (Still.move rfl rfl) ?_
  refine RunL.still rfl rfl rfl (Still.eqlStrD rfl rfl rfl) ?_
  refine RunL.nil ?_
  refine Ends.then ?_
  refine RunC.cond rfl (fun h13 => ?_) (fun h13 => ?_)
  · have h13 := of_decide_eq_true h13
    exact absurd h13 hx.dash
  · have h13 := of_decide_eq_false h13
    refine RunC.skip ?_
    refine Ends.then ?_
    refine RunC.seq ?_
    refine RunC.region ?_
    refine RunL.still rfl rfl rfl (Still.move rfl rfl) ?_
    refine RunL.grows rfl rfl rfl (Grows.call (vs := #[_, _]) rfl rfl Tryz.call77 (fun w hs => z_TrimLeftD (wW s) w)) (fun _ _ => ?_)
    refine RunL.still rfl rfl rfl (Still.assign rfl rfl) ?_
    refine RunL.nil ?_
    refine Ends.then ?_
    refine RunC.seq ?_
    refine RunC.seq ?_
    refine RunC.region ?_
    refine RunL.still rfl rfl rfl (Still.move rfl rfl) ?_
    refine RunL.still rfl rfl rfl (Still.neqStrD rfl rfl rfl) ?_
    refine RunL.still rfl rfl rfl (Still.move rfl rfl) ?_
    refine RunL.split (t := 19) rfl (fun h19 => ?_) (fun h19 => ?_)
    · have h19 := of_decide_eq_true h19
      exact absurd hx.dig h19
    · have h19 := of_decide_eq_false h19
      refine RunL.still rfl rfl rfl (Still.move rfl rfl) ?_
      refine RunL.still rfl rfl rfl (Still.lenStr rfl rfl Tryz.underlying9) ?_
      refine RunL.still rfl rfl rfl (Still.gtr rfl rfl rfl) ?_
      refine RunL.still rfl rfl rfl (Still.move rfl rfl) ?_
      refine RunL.split (t := 23) rfl (fun h23 => ?_) (fun h23 => ?_)
      · have h23 := of_decide_eq_true h23
        omega
      · have h23 := of_decide_eq_false h23
        refine RunL.off rfl rfl rfl ?_
        refine RunL.off rfl rfl rfl ?_
        refine RunL.off rfl rfl rfl ?_
        refine RunL.still rfl rfl rfl (Still.pickF rfl rfl rfl) ?_
        refine RunL.still rfl rfl rfl (Still.pickF rfl rfl rfl) ?_
        refine RunL.nil ?_
        refine Ends.then ?_
        refine RunC.cond_false rfl ?_
        refine RunC.skip ?_
        refine Ends.then ?_
        refine RunC.seq ?_
        refine RunC.region ?_
        refine RunL.still rfl rfl rfl (Still.build_1 (fun x0_0 => .agg #[x0_0, .int .i64 0, .int .i64 0, .int .i64 0, .int .i64 0]) rfl rfl (fun _ => by kernel_rfl)) ?_
        refine RunL.grows rfl rfl rfl (Grows.alloc rfl Tryz.zeroValue34) (fun b5 _ => ?_)
        refine RunL.does0 rfl rfl (Does.store rfl rfl rfl (i := 0) rfl Tryz.sizeOf34 rfl (rfl) rfl) (fun _ _ => ?_)
        refine RunL.conv (fun _ hs => hs.re 0 rfl (show _ = HL.obj b5 (.cells #[iv 1000, iv 0, iv 0, iv 0, iv 0] 34 (0, 0)) from rfl)) ?_
        refine RunL.nil ?_
        refine Ends.then ?_
        refine RunC.seq ?_
        refine RunC.seq ?_
        refine RunC.region ?_
        refine RunL.still rfl rfl rfl (Still.move rfl rfl) ?_
        refine RunL.still rfl rfl rfl (Still.lenStr rfl rfl Tryz.underlying9) ?_
        refine RunL.still rfl rfl rfl (Still.leq rfl rfl rfl) ?_
        refine RunL.nil ?_
        refine Ends.then ?_
        refine RunC.cond rfl (fun h34 => ?_) (fun h34 => ?_)
        · have h34 := of_decide_eq_true h34
          refine RunC.region ?_
          refine RunL.still rfl rfl rfl (Still.move rfl rfl) ?_
          refine RunL.still rfl rfl rfl (Still.move rfl rfl) ?_
          refine RunL.grows rfl rfl rfl (Grows.call (vs := #[_, _, _]) rfl rfl Tryz.call64 (fun w hs => gl_number b (wW s) x.tet 9999 w (he.old (hs.outer hO (fun c hc => .inl (by have e : c = b := hc; omega)))) hx.num (by have := hx.num.2.1; omega))) (fun _ _ => ?_)
          refine RunL.still rfl rfl rfl (Still.fieldAddrL (off := 0) (off' := 0) rfl rfl Tryz.underlying34 rfl Tryz.sizeOf3 rfl) ?_
          refine RunL.does0 rfl rfl (Does.store1 rfl rfl rfl (i := 0) rfl Tryz.sizeOf3 (rfl) (rfl)) (fun _ _ => ?_)
          refine RunL.conv (fun _ hs => hs.re 0 rfl (show _ = HL.obj b5 (.cells #[iv x.tet, iv 0, iv 0, iv 0, iv 0] 34 (0, 0)) from rfl)) ?_
          refine RunL.nil ?_
          refine Ends.then ?_
          refine RunC.seq ?_
          refine RunC.region ?_
          refine RunL.still rfl rfl rfl (Still.move rfl rfl) ?_
          refine RunL.still rfl rfl rfl (Still.nilCheck rfl rfl) ?_
          refine RunL.still rfl rfl rfl (Still.fieldAddrL (off := 0) (off' := 0) rfl rfl Tryz.underlying91 rfl Tryz.sizeOf89 rfl) ?_
          refine RunL.does rfl rfl rfl (Does.call (vs := #[_]) (K := [_]) (R := [_, _]) (S' := (fun c => c = b)) rfl rfl Tryz.call65 (HSub.pick 1 rfl (HSub.pick 0 rfl (HSub.pick 0 rfl (HSub.nil _)))) (fun c hc => ⟨_, List.mem_cons_self .., hc⟩) (fun w hs => gl_word b (wR s) w (hs.at (i := 0) rfl) (hs.lt (i := 0) rfl) he (hs.outer hO (fun c hc => .inl (by have e : c = b := hc; omega))) hf0 hx.w2)) (fun _ _ => ?_)
          refine RunL.still rfl rfl rfl (Still.assign rfl rfl) ?_
          refine RunL.nil ?_
          refine Ends.then ?_
          refine RunC.seq ?_
          refine RunC.seq ?_
          refine RunC.region ?_
          refine RunL.still rfl rfl rfl (Still.move rfl rfl) ?_
          refine RunL.still rfl rfl rfl (Still.lenStr rfl rfl Tryz.underlying9) ?_
          refine RunL.still rfl rfl rfl (Still.neq rfl rfl rfl) ?_
          refine RunL.still rfl rfl rfl (Still.move rfl rfl) ?_
          refine RunL.split (t := 46) rfl (fun h46 => ?_) (fun h46 => ?_)
          · have h46 := of_decide_eq_true h46
            have := hx.four; omega
          · have h46 := of_decide_eq_false h46
            refine RunL.still rfl rfl rfl (Still.move rfl rfl) ?_
            refine RunL.grows rfl rfl rfl (Grows.call (vs := #[_, _]) rfl rfl Tryz.call67 (fun w hs => z_TrimD (wW (wR s)) w (by have := hx.four; omega))) (fun _ _ => ?_)
            refine RunL.still rfl rfl rfl (Still.neqStrD rfl rfl rfl) ?_
            refine RunL.still rfl rfl rfl (Still.pickF rfl rfl rfl) ?_
            refine RunL.nil ?_
            refine Ends.then ?_
            refine RunC.cond rfl (fun h50 => ?_) (fun h50 => ?_)
            · have h50 := of_decide_eq_true h50
              exact absurd hx.digs h50
            · have h50 := of_decide_eq_false h50
              refine RunC.skip ?_
              refine Ends.then ?_
              refine RunC.seq ?_
              refine RunC.seq ?_
              refine RunC.region ?_
              refine RunL.still rfl rfl rfl (Still.move rfl rfl) ?_
              refine RunL.nil ?_
              refine Ends.then ?_
              refine RunC.block ?_
              refine RunC.loop2 (γ := Nat) (keep := [(2, _), (5, _), (6, _)]) (hkeep := [_, _]) (fun i => i ≤ 4) (fun i => 4 - i) (fun i => [(53, iv i)]) (fun i => [HL.obj b5 (.cells (fTo x i) 34 (0, 0))]) 0 (by omega) (Fr.Sub.cons rfl (Fr.Sub.nil _)) (Fr.Sub.cons rfl (Fr.Sub.cons rfl (Fr.Sub.cons rfl (Fr.Sub.nil _)))) (HSub.pick 1 rfl (HSub.pick 0 rfl (HSub.pick 0 rfl (HSub.nil _)))) ?_
              rintro i hi
              refine RunC.seq ?_
              refine RunC.region ?_
              refine RunL.still rfl rfl rfl (Still.lss rfl rfl rfl) ?_
              refine RunL.nil ?_
              refine Ends.then ?_
              refine RunC.seq ?_
              refine RunC.cond rfl (fun h54 => ?_) (fun h54 => ?_)
              · have h54 := of_decide_eq_true h54
                have hi4 : i < 4 := by omega
                have hlo := hx.lo i hi4
                have hby := byteAt_lt (wW (wR s)) i
                have hxf := hx.four
                refine RunC.skip ?_
                refine Ends.then ?_
                refine RunC.seq ?_
                refine RunC.block ?_
                refine RunC.seq ?_
                refine RunC.region ?_
                refine RunL.still rfl rfl rfl (Still.move rfl rfl) ?_
                refine RunL.still rfl rfl rfl (Still.assign rfl rfl) ?_
                refine RunL.nil ?_
                refine Ends.then ?_
                refine RunC.region ?_
                refine RunL.still rfl rfl rfl (Still.move rfl rfl) ?_
                refine RunL.still rfl rfl rfl (Still.move rfl rfl) ?_
                refine RunL.still rfl rfl rfl (Still.move rfl rfl) ?_
                refine RunL.still rfl rfl rfl (Still.indexStrB (i) rfl rfl rfl Tryz.underlying9 (by omega)) ?_
                refine RunL.still rfl rfl rfl (Still.sub rfl rfl rfl (fits8 (by omega) (by omega))) ?_
                refine RunL.still rfl rfl rfl (Still.convInt rfl rfl ((congrArg Option.isSome Tryz.underlying5).trans rfl) Tryz.underlying3 (wrap_i64 (by omega) (by omega))) ?_
                refine RunL.still rfl rfl rfl (Still.fieldAddrL (off := 0) (off' := 1) rfl rfl Tryz.underlying34 rfl Tryz.sizeOf32 rfl) ?_
                refine RunL.still rfl rfl rfl (Still.indexArrNL rfl rfl rfl Tryz.underlying32 Tryz.sizeOf3 (by omega)) ?_
                refine RunL.does0 rfl rfl (Does.store1 rfl rfl rfl (i := 0) rfl Tryz.sizeOf3 rfl (Nat.ble_eq_true_of_le (show 1 + i * 1 + 1 ≤ 5 by omega))) (fun _ _ => ?_)
                refine RunL.conv (fun _ hs => hs.re 0 rfl (show _ = HL.obj b5 (.cells (fTo x (i + 1)) 34 (0, 0)) from congrArg (fun z => HL.obj b5 (.cells z 34 (0, 0))) (fTo_set x hi4 (hx.at' i hi4).symm))) ?_
                refine RunL.nil ?_
                refine Ends.block ?_
                refine Ends.then ?_
                refine RunC.region ?_
                refine RunL.still rfl rfl rfl (Still.add rfl rfl rfl (fits64 (by omega) (by omega))) ?_
                refine RunL.still rfl rfl rfl (Still.move rfl rfl) ?_
                refine RunL.nil ?_
                refine Ends.again (i + 1) ?_ ?_ (Fr.Sub.app ?_ ?_) ?_
                · show _; omega
                · show _ < _; omega
                · exact Fr.Sub.cons rfl (Fr.Sub.nil _)
                · exact Fr.Sub.cons rfl (Fr.Sub.cons rfl (Fr.Sub.cons rfl (Fr.Sub.nil _)))
                · exact HSub.pick 0 rfl (HSub.pick 0 rfl (HSub.pick 0 rfl (HSub.nil _)))
              · have h54 := of_decide_eq_false h54
                obtain rfl : i = 4 := by omega
                refine RunC.exit ?_
                refine Ends.then_exit ?_
                refine Ends.then_exit ?_
                refine Ends.block_exit ?_
                refine Ends.then ?_
                refine RunC.seq ?_
                refine RunC.region ?_
                refine RunL.still rfl rfl rfl (Still.loads rfl rfl Tryz.isAgg34 Tryz.sizeOf34 (vs := [_, _, _, _, _]) rfl (fun _ hs => cells_nth (hs.at (i := 0) rfl) ⟨rfl, ⟨rfl, ⟨rfl, ⟨rfl, ⟨rfl, trivial⟩⟩⟩⟩⟩)) ?_
                refine RunL.does0 rfl rfl (Does.store rfl rfl rfl (i := 2) rfl Tryz.sizeOf34 rfl (rfl) rfl) (fun _ _ => ?_)
                refine RunL.nil ?_
                refine Ends.then ?_
                refine RunC.ret ?_
                refine Ends.leave (.inl rfl) (fun _ _ ok => results1 Tryz.results66 (Holds.cell rfl (fun _ hs => load_cells (vs := [_, _, _, _, _]) Tryz.isAgg34 Tryz.sizeOf34 rfl (cells_nth (hs.at (i := 2) rfl) ⟨rfl, ⟨rfl, ⟨rfl, ⟨rfl, ⟨rfl, trivial⟩⟩⟩⟩⟩))) ok) (fun w1 hs => ?_)
                exact Ret.intro () trivial rfl (HSub.pick 1 rfl (HSub.nil _)) hs
        · have h34 := of_decide_eq_false h34
          omega

theorem parse_ret (ba bb : Nat) (v e : Value) {w0 : World} {S0 : Nat → Prop} (w : World) (hs : Sym w0 S0 [HL.obj ba (.cells #[v] 24 (0, 0)), HL.obj bb (.cells #[e] 27 (0, 0))] w) : CallsBack Tryz.prog 63 #[ptrV ba, ptrV bb] .returning .returning w (fun c => ∃ k ∈ [HL.obj ba (.cells #[v] 24 (0, 0)), HL.obj bb (.cells #[e] 27 (0, 0))], k.supp c) [HL.obj ba (.cells #[v] 24 (0, 0)), HL.obj bb (.cells #[e] 27 (0, 0))] := by
  refine callsBack_recover (args := [ptrV ba, ptrV bb]) (n := 17) Tryz.func63 rfl rfl rfl rfl rfl rfl rfl Tryz.ntmps63 (Nat.le_of_ble_eq_true rfl) rfl rfl Tryz.results63 hs.hand rfl ?_
  change RunC _ _ _ [(2, _), (5, _), (0, _), (1, _)] _
  refine RunC.seq ?_
  refine RunC.region ?_
  refine RunL.still rfl rfl rfl (Still.move rfl rfl) ?_
  refine RunL.still rfl rfl rfl (Still.neqNilN rfl rfl in_iface20) ?_
  refine RunL.nil ?_
  refine Ends.then ?_
  refine RunC.cond_false rfl ?_
  refine RunC.skip ?_
  exact Ends.back (.inr rfl) rfl (HSub.pick 0 rfl (HSub.pick 0 rfl (HSub.nil _)))

theorem gl_Parse_one (w : World) (he : Env w) : Gives Tryz.prog 29 #[.string txtOne] w Nil (fun q : Option Addr × Nat => OKB q gOne.length) (fun q => .tuple #[gluV q.1 q.2 gOne, iv 0]) (fun q => [ownG q gOne]) := by
  refine fn_of_runD (S := Nil) (args := [.string txtOne]) (n := 57) (L := []) Tryz.func29 rfl Tryz.ntmps29 (Nat.le_of_ble_eq_true rfl) (Sym.nil _ _) ?_
  change RunC _ _ _ [(0, _)] _
  refine RunC.seq ?_
  refine RunC.region ?_
  refine RunL.grows rfl rfl rfl (Grows.alloc rfl Tryz.zeroValue24) (fun b2 _ => ?_)
  refine RunL.own_nil 35 20 ?_
  refine RunL.grows rfl rfl rfl (Grows.alloc rfl Tryz.zeroValue27) (fun b3 _ => ?_)
  refine RunL.nil ?_
  refine Ends.then ?_
  refine RunC.seq ?_
  refine RunC.seq ?_
  refine RunC.region ?_
  refine RunL.still rfl rfl rfl (Still.move rfl rfl) ?_
  refine RunL.still rfl rfl rfl (Still.lenStr rfl rfl Tryz.underlying9) ?_
  refine RunL.still rfl rfl rfl (Still.gtr rfl rfl rfl) ?_
  refine RunL.nil ?_
  refine Ends.then ?_
  refine RunC.cond rfl (fun h11 => ?_) (fun h11 => ?_)
  · have h11 := of_decide_eq_true h11
    exact absurd h11 (by decide +kernel)
  · have h11 := of_decide_eq_false h11
    refine RunC.skip ?_
    refine Ends.then ?_
    refine RunC.seq ?_
    refine RunC.region ?_
    refine RunL.still rfl rfl rfl (Still.makeFunc (vs := #[_, _]) rfl rfl) ?_
    refine RunL.defer rfl rfl rfl rfl rfl ?_
    refine RunL.nil ?_
    refine Ends.then ?_
    refine RunC.seq ?_
    refine RunC.region ?_
    refine RunL.still rfl rfl rfl (Still.move rfl rfl) ?_
    refine RunL.still rfl rfl rfl (Still.build_1 (fun x0_0 => .agg #[x0_0]) rfl rfl (fun _ => by kernel_rfl)) ?_
    refine RunL.still rfl rfl rfl (Still.build_1 (fun _ => .agg #[.string txtOne]) rfl rfl (fun _ => by kernel_rfl)) ?_
    refine RunL.grows rfl rfl rfl (Grows.box rfl rfl) (fun b17 _ => ?_)
    refine RunL.still rfl rfl rfl (Still.assign rfl rfl) ?_
    refine RunL.nil ?_
    refine Ends.then ?_
    refine RunC.seq ?_
    refine RunC.region ?_
    refine RunL.still rfl rfl rfl (Still.move rfl rfl) ?_
    refine RunL.still rfl rfl rfl (Still.move rfl rfl) ?_
    refine RunL.still rfl rfl rfl (Still.nilCheck rfl rfl) ?_
    refine RunL.still rfl rfl rfl (Still.fieldAddrL (off := 0) (off' := 0) rfl rfl Tryz.underlying91 rfl Tryz.sizeOf89 rfl) ?_
    refine RunL.does rfl rfl rfl (Does.call (vs := #[_]) (K := [_]) (R := [_, _, _]) (S' := (fun c => c = b17)) rfl rfl Tryz.call65 (HSub.pick 0 rfl (HSub.pick 0 rfl (HSub.pick 0 rfl (HSub.pick 0 rfl (HSub.nil _))))) (fun c hc => ⟨_, List.mem_cons_self .., hc⟩) (fun w hs => gl_word b17 txtOne w (hs.at (i := 0) rfl) (hs.lt (i := 0) rfl) he hs.old ((hs.supp _ (List.mem_of_getElem? (i := 0) rfl) b17 rfl).2.resolve_right (fun h => h)) one_w)) (fun _ _ => ?_)
    refine RunL.grows rfl rfl rfl (Grows.call (vs := #[_, _, _]) rfl rfl Tryz.call64 (fun w hs => gl_number b17 (wW txtOne) 1 1000 w (he.sym hs) one_num (by decide))) (fun _ _ => ?_)
    refine RunL.still rfl rfl rfl (Still.assign rfl rfl) ?_
    refine RunL.nil ?_
    refine Ends.then ?_
    refine RunC.seq ?_
    refine RunC.seq ?_
    refine RunC.region ?_
    refine RunL.still rfl rfl rfl (Still.move rfl rfl) ?_
    refine RunL.still rfl rfl rfl (Still.move rfl rfl) ?_
    refine RunL.nil ?_
    refine Ends.then ?_
    refine RunC.block ?_
    refine RunC.loop2 (γ := Value × Nat) (keep := [(2, _), (3, _), (4, _), (24, _)]) (hkeep := [_]) (fun (v, c) => c ≤ 1) (fun (v, c) => 1 - c) (fun (v, c) => [(25, iv c)]) (fun (v, c) => [HL.obj b2 (.cells #[v] 24 (0, 0)), HL.own 35 20 v c ((gOne.take c).flatMap encT), HL.obj b17 (.cells #[.string (restAt (4 * c))] 91 (0, 0))]) (.slice none 0 0, 0) (by omega) (Fr.Sub.cons rfl (Fr.Sub.nil _)) (Fr.Sub.cons rfl (Fr.Sub.cons rfl (Fr.Sub.cons rfl (Fr.Sub.cons rfl (Fr.Sub.nil _))))) (HSub.pick 3 rfl (HSub.pick 2 rfl (HSub.pick 0 rfl (HSub.pick 0 rfl (HSub.nil _))))) ?_
    rintro ⟨v, c⟩ hc
    have hc : c ≤ 1 := hc
    refine RunC.seq ?_
    refine RunC.region ?_
    refine RunL.still rfl rfl rfl (Still.lss rfl rfl rfl) ?_
    refine RunL.nil ?_
    refine Ends.then ?_
    refine RunC.seq ?_
    refine RunC.cond rfl (fun h26 => ?_) (fun h26 => ?_)
    · have h26 := of_decide_eq_true h26
      obtain rfl : c = 0 := by omega
      refine RunC.skip ?_
      refine Ends.then ?_
      refine RunC.seq ?_
      refine RunC.block ?_
      refine RunC.seq ?_
      refine RunC.region ?_
      refine RunL.grows rfl rfl rfl (Grows.alloc rfl Tryz.zeroValue35) (fun b6 _ => ?_)
      refine RunL.nil ?_
      refine Ends.then ?_
      refine RunC.seq ?_
      refine RunC.seq ?_
      refine RunC.region ?_
      refine RunL.still rfl rfl rfl (Still.move rfl rfl) ?_
      refine RunL.nil ?_
      refine Ends.then ?_
      refine RunC.block ?_
      refine RunC.loop2 (γ := Nat) (keep := [(2, _), (3, _), (4, _), (6, _), (24, _), (25, _)]) (hkeep := [_, _, _]) (fun f => f ≤ 4) (fun f => 4 - f) (fun f => [(27, iv f)]) (fun f => [HL.obj b6 (.cells (ttA (rowTo f)) 35 (0, 0)), HL.obj b17 (.cells #[.string (restAt f)] 91 (0, 0))]) 0 (by omega) (Fr.Sub.cons rfl (Fr.Sub.nil _)) (Fr.Sub.cons rfl (Fr.Sub.cons rfl (Fr.Sub.cons rfl (Fr.Sub.cons rfl (Fr.Sub.cons rfl (Fr.Sub.cons rfl (Fr.Sub.nil _))))))) (HSub.pick 0 rfl (HSub.pick 2 rfl (HSub.pick 0 rfl (HSub.pick 0 rfl (HSub.pick 0 rfl (HSub.nil _)))))) ?_
      rintro f hf
      refine RunC.seq ?_
      refine RunC.region ?_
      refine RunL.still rfl rfl rfl (Still.lss rfl rfl rfl) ?_
      refine RunL.nil ?_
      refine Ends.then ?_
      refine RunC.seq ?_
      refine RunC.cond rfl (fun h28 => ?_) (fun h28 => ?_)
      · have h28 := of_decide_eq_true h28
        have hf4 : f < 4 := by omega
        refine RunC.skip ?_
        refine Ends.then ?_
        refine RunC.seq ?_
        refine RunC.block ?_
        refine RunC.seq ?_
        refine RunC.region ?_
        refine RunL.still rfl rfl rfl (Still.move rfl rfl) ?_
        refine RunL.still rfl rfl rfl (Still.assign rfl rfl) ?_
        refine RunL.nil ?_
        refine Ends.then ?_
        refine RunC.region ?_
        refine RunL.still rfl rfl rfl (Still.move rfl rfl) ?_
        refine RunL.still rfl rfl rfl (Still.move rfl rfl) ?_
        refine RunL.does rfl rfl rfl (Does.call (vs := #[_]) (K := [_]) (R := [_, _, _, _]) (S' := (fun c => c = b17)) rfl rfl Tryz.call66 (HSub.pick 1 rfl (HSub.pick 0 rfl (HSub.pick 0 rfl (HSub.pick 0 rfl (HSub.pick 0 rfl (HSub.nil _)))))) (fun c hc => ⟨_, List.mem_cons_self .., hc⟩) (fun w hs => gl_face b17 (restAt f) (tOne.at f) w (hs.at (i := 0) rfl) (hs.lt (i := 0) rfl) he hs.old ((hs.supp _ (List.mem_of_getElem? (i := 0) rfl) b17 rfl).2.resolve_right (fun h => h)) (one_face hf4))) (fun _ _ => ?_)
        refine RunL.still rfl rfl rfl (Still.indexArrNL rfl rfl rfl Tryz.underlying35 Tryz.sizeOf34 (by omega)) ?_
        refine RunL.does0 rfl rfl (Does.store rfl rfl rfl (i := 1) rfl Tryz.sizeOf34 rfl (Nat.ble_eq_true_of_le (show 0 + f * 5 + 5 ≤ 20 by omega)) rfl) (fun _ _ => ?_)
        refine RunL.conv (fun _ hs => hs.re 1 rfl (show _ = HL.obj b6 (.cells (ttA (rowTo (f + 1))) 35 (0, 0)) from congrArg (fun z => HL.obj b6 (.cells z 35 (0, 0))) (rowTo_set hf4))) ?_
        refine RunL.nil ?_
        refine Ends.block ?_
        refine Ends.then ?_
        refine RunC.region ?_
        refine RunL.still rfl rfl rfl (Still.add rfl rfl rfl (fits64 (by omega) (by omega))) ?_
        refine RunL.still rfl rfl rfl (Still.move rfl rfl) ?_
        refine RunL.nil ?_
        refine Ends.again (f + 1) ?_ ?_ (Fr.Sub.app ?_ ?_) ?_
        · show _; omega
        · show _ < _; omega
        · exact Fr.Sub.cons rfl (Fr.Sub.nil _)
        · exact Fr.Sub.cons rfl (Fr.Sub.cons rfl (Fr.Sub.cons rfl (Fr.Sub.cons rfl (Fr.Sub.cons rfl (Fr.Sub.cons rfl (Fr.Sub.nil _))))))
        · exact HSub.pick 1 rfl (HSub.pick 0 rfl (HSub.pick 0 rfl (HSub.pick 0 rfl (HSub.pick 0 rfl (HSub.nil _)))))
      · have h28 := of_decide_eq_false h28
        obtain rfl : f = 4 := by omega
        refine RunC.exit ?_
        refine Ends.then_exit ?_
        refine Ends.then_exit ?_
        refine Ends.block_exit ?_
        refine Ends.then ?_
        refine RunC.region ?_
        refine RunL.still rfl rfl rfl (Still.fieldAddrL (off := 0) (off' := 0) rfl rfl Tryz.underlying24 rfl Tryz.sizeOf22 rfl) ?_
        refine RunL.still rfl rfl rfl (Still.load rfl rfl Tryz.isAgg22 (fun _ hs => cell_nth (hs.at (i := 2) rfl) rfl)) ?_
        refine RunL.still rfl rfl rfl (Still.loads rfl rfl Tryz.isAgg35 Tryz.sizeOf35 (vs := [_, _, _, _, _, _, _, _, _, _, _, _, _, _, _, _, _, _, _, _]) rfl (fun _ hs => cells_nth (hs.at (i := 0) rfl) ⟨rfl, ⟨rfl, ⟨rfl, ⟨rfl, ⟨rfl, ⟨rfl, ⟨rfl, ⟨rfl, ⟨rfl, ⟨rfl, ⟨rfl, ⟨rfl, ⟨rfl, ⟨rfl, ⟨rfl, ⟨rfl, ⟨rfl, ⟨rfl, ⟨rfl, ⟨rfl, trivial⟩⟩⟩⟩⟩⟩⟩⟩⟩⟩⟩⟩⟩⟩⟩⟩⟩⟩⟩⟩)) ?_
        refine RunL.grows rfl rfl rfl (Grows.slice1 rfl rfl Tryz.underlying22 Tryz.sizeOf35 rfl Tryz.zeroValue35 (by decide)) (fun b38 _ => ?_)
        refine RunL.does rfl rfl rfl (Does.appendTo (n' := 1) (xs' := (gOne.flatMap encT)) (news := [_, _, _, _, _, _, _, _, _, _, _, _, _, _, _, _, _, _, _, _]) rfl rfl rfl rfl (i := 4) rfl Tryz.underlying22 (by kernel_rfl : (_ : Option _) = some (some (.agg #[.int .i64 0, .int .i64 0, .int .i64 0, .int .i64 0, .int .i64 0, .int .i64 0, .int .i64 0, .int .i64 0, .int .i64 0, .int .i64 0, .int .i64 0, .int .i64 0, .int .i64 0, .int .i64 0, .int .i64 0, .int .i64 0, .int .i64 0, .int .i64 0, .int .i64 0, .int .i64 0]), 20, 160)) rfl rfl (fun _ hs => cells_nth (hs.at (i := 0) rfl) ⟨rfl, ⟨rfl, ⟨rfl, ⟨rfl, ⟨rfl, ⟨rfl, ⟨rfl, ⟨rfl, ⟨rfl, ⟨rfl, ⟨rfl, ⟨rfl, ⟨rfl, ⟨rfl, ⟨rfl, ⟨rfl, ⟨rfl, ⟨rfl, ⟨rfl, ⟨rfl, trivial⟩⟩⟩⟩⟩⟩⟩⟩⟩⟩⟩⟩⟩⟩⟩⟩⟩⟩⟩⟩) rfl rfl (by omega) (by omega) (rfl) (rfl)) (fun v39 hv39 => ?_)
        refine RunL.know (fun _ hs => own_oneCell (hs.own (i := 4) rfl)) (fun h1v => ?_)
        refine RunL.still rfl rfl rfl (Still.fieldAddrL (off := 0) (off' := 0) rfl rfl Tryz.underlying24 rfl Tryz.sizeOf22 rfl) ?_
        refine RunL.does0 rfl rfl (Does.store1 rfl rfl rfl (i := 3) rfl Tryz.sizeOf22 (h1v) (rfl)) (fun _ _ => ?_)
        refine RunL.nil ?_
        refine Ends.block ?_
        refine Ends.then ?_
        refine RunC.region ?_
        refine RunL.still rfl rfl rfl (Still.add rfl rfl rfl (fits64 (by omega) (by omega))) ?_
        refine RunL.still rfl rfl rfl (Still.move rfl rfl) ?_
        refine RunL.nil ?_
        refine Ends.again (v39, 0 + 1) ?_ ?_ (Fr.Sub.app ?_ ?_) ?_
        · show 0 + 1 ≤ 1; omega
        · show 1 - (0 + 1) < 1 - 0; omega
        · exact Fr.Sub.cons rfl (Fr.Sub.nil _)
        · exact Fr.Sub.cons rfl (Fr.Sub.cons rfl (Fr.Sub.cons rfl (Fr.Sub.cons rfl (Fr.Sub.nil _))))
        · exact HSub.pick 3 rfl (HSub.pick 3 rfl (HSub.pick 2 rfl (HSub.pick 2 rfl (HSub.nil _))))
    · have h26 := of_decide_eq_false h26
      obtain rfl : c = 1 := by omega
      refine RunC.know (fun _ hs => own_shape (hs.own (i := 1) rfl)) (fun hsh => ?_)
      obtain ⟨vb, vc, hvv, hvb⟩ := hsh
      subst hvv
      refine RunC.exit ?_
      refine Ends.then_exit ?_
      refine Ends.then_exit ?_
      refine Ends.block_exit ?_
      refine Ends.then ?_
      refine RunC.seq ?_
      refine RunC.seq ?_
      refine RunC.region ?_
      refine RunL.still rfl rfl rfl (Still.move rfl rfl) ?_
      refine RunL.still rfl rfl rfl (Still.nilCheck rfl rfl) ?_
      refine RunL.still rfl rfl rfl (Still.fieldAddrL (off := 0) (off' := 0) rfl rfl Tryz.underlying91 rfl Tryz.sizeOf89 rfl) ?_
      refine RunL.still rfl rfl rfl (Still.fieldAddrL (off := 0) (off' := 0) rfl rfl Tryz.underlying89 rfl Tryz.sizeOf9 rfl) ?_
      refine RunL.still rfl rfl rfl (Still.load rfl rfl Tryz.isAgg9 (fun _ hs => cell_nth (hs.at (i := 2) rfl) rfl)) ?_
      refine RunL.grows rfl rfl rfl (Grows.call (vs := #[_, _]) rfl rfl Tryz.call67 (fun w hs => z_Trim1 (restAt 4) w (by have := one_end_size; omega))) (fun _ _ => ?_)
      refine RunL.still rfl rfl rfl (Still.neqStrD rfl rfl rfl) ?_
      refine RunL.nil ?_
      refine Ends.then ?_
      refine RunC.cond rfl (fun h48 => ?_) (fun h48 => ?_)
      · have h48 := of_decide_eq_true h48
        exact absurd one_end h48
      · skip
        refine RunC.skip ?_
        refine Ends.then ?_
        refine RunC.seq ?_
        refine RunC.seq ?_
        refine RunC.region ?_
        refine RunL.still rfl rfl rfl (Still.loads rfl rfl Tryz.isAgg24 Tryz.sizeOf24 (vs := [_]) rfl (fun _ hs => cells_nth (hs.at (i := 0) rfl) ⟨rfl, trivial⟩)) ?_
        refine RunL.grows rfl rfl rfl (Grows.call (vs := #[_]) rfl rfl Tryz.call14 (fun w hs => gl_Check vb (vaddr (.slice vb 1 vc)) vc gOne w (GluAt.of_ownG (q := (vb, vc)) (g := gOne) (by decide) (hs.at (i := 1) rfl)))) (fun _ _ => ?_)
        refine RunL.still rfl rfl rfl (Still.assign rfl rfl) ?_
        refine RunL.nil ?_
        refine Ends.then ?_
        refine RunC.seq ?_
        refine RunC.region ?_
        refine RunL.still rfl rfl rfl (Still.move rfl rfl) ?_
        refine RunL.still rfl rfl rfl (Still.neq rfl rfl rfl) ?_
        refine RunL.nil ?_
        refine Ends.then ?_
        refine RunC.cond rfl (fun h53 => ?_) (fun h53 => ?_)
        · have h53 := of_decide_eq_true h53
          exact absurd (chkG_ok one_ok) h53
        · have h53 := of_decide_eq_false h53
          refine RunC.skip ?_
          refine Ends.then ?_
          refine RunC.seq ?_
          refine RunC.region ?_
          refine RunL.still rfl rfl rfl (Still.loads rfl rfl Tryz.isAgg24 Tryz.sizeOf24 (vs := [_]) rfl (fun _ hs => cells_nth (hs.at (i := 0) rfl) ⟨rfl, trivial⟩)) ?_
          refine RunL.does0 rfl rfl (Does.store rfl rfl rfl (i := 0) rfl Tryz.sizeOf24 rfl (rfl) rfl) (fun _ _ => ?_)
          refine RunL.does0 rfl rfl (Does.store1 rfl rfl rfl (i := 3) rfl Tryz.sizeOf27 (rfl) (rfl)) (fun _ _ => ?_)
          refine RunL.nil ?_
          refine Ends.then ?_
          refine RunC.ret ?_
          refine Ends.leaveD (K := [_, _]) (Rr := [_, _]) (H := [_, _]) (.inl (.inl rfl)) rfl (fun w => by simp [invoke, Tryz.call63]) rfl (HSub.pick 0 rfl (HSub.pick 2 rfl (HSub.pick 0 rfl (HSub.pick 0 rfl (HSub.nil _))))) (fun _ h => h) (fun w hs => parse_ret b2 b3 _ _ w hs.left) (fun _ _ ok => results2 Tryz.results29 (Holds.cell rfl (fun _ hs => load_cells (vs := [_]) Tryz.isAgg24 Tryz.sizeOf24 rfl (cells_nth (hs.at (i := 0) rfl) ⟨rfl, trivial⟩))) (Holds.cell rfl (fun _ hs => load_one Tryz.isAgg27 (cell_nth (hs.at (i := 1) rfl) rfl))) ok) (fun w1 hs => ?_)
          exact Ret.intro (vb, vc) hvb rfl (HSub.pick 2 rfl (HSub.nil _)) hs

end Go.Proofs
/- Parts and orientations of gluings: contracts of both texts. -/
namespace Go.Proofs
open Go Go.V
set_option maxRecDepth 20000
theorem gl_parts (base : Option Addr) (A : Addr) (cap : Nat) (g : Glu) (w : World) (hg : GluAt w base A g) (hok : okG g = true) : Gives Tryz.prog 49 #[gluV base cap g] w Nil (fun _ : Nat => True) (fun b => .tuple #[.slice (some ⟨b, 0, none⟩) g.length g.length, iv (partsN g)]) (fun b => [HL.own 3 1 (.slice (some ⟨b, 0, none⟩) g.length g.length) g.length (ints (partsOf g))]) := by
  have hlen := hg.len
  have h1000 := okG_len hok
  refine fn_of_run (S := Nil) (args := [gluV base cap g]) (n := 85) (L := []) Tryz.func49 rfl Tryz.ntmps49 (Nat.le_of_ble_eq_true rfl) (Sym.nil _ _) ?_
  change RunC _ _ _ [(0, _)] _
  refine RunC.seq ?_
  refine RunC.region ?_
  refine RunL.grows rfl rfl rfl (Grows.box rfl rfl) (fun b1 _ => ?_)
  refine RunL.still rfl rfl rfl (Still.assign rfl rfl) ?_
  refine RunL.still rfl rfl rfl (Still.assign rfl rfl) ?_
  refine RunL.nil ?_
  refine Ends.then ?_
  refine RunC.seq ?_
  refine RunC.region ?_
  refine RunL.still rfl rfl rfl (Still.fieldAddrL (off := 0) (off' := 0) rfl rfl Tryz.underlying24 rfl Tryz.sizeOf22 rfl) ?_
  refine RunL.still rfl rfl rfl (Still.load rfl rfl Tryz.isAgg22 (fun _ hs => cell_nth (hs.at (i := 0) rfl) rfl)) ?_
  refine RunL.still rfl rfl rfl (Still.lenSlice rfl rfl Tryz.underlying22) ?_
  refine RunL.grows rfl rfl rfl (Grows.make (n := g.length) (xs := (ints (List.replicate g.length 0))) rfl rfl rfl Tryz.underlying36 (by kernel_rfl : (_ : Option _) = some (some (.int .i64 0), 1, 8)) rfl (by omega) (by omega) (zeros_one _ _ |>.trans (ints_replicate _ _))) (fun b15 _ => ?_)
  refine RunL.still rfl rfl rfl (Still.assign rfl rfl) ?_
  refine RunL.nil ?_
  refine Ends.then ?_
  refine RunC.seq ?_
  refine RunC.seq ?_
  refine RunC.region ?_
  refine RunL.still rfl rfl rfl (Still.move rfl rfl) ?_
  refine RunL.still rfl rfl rfl (Still.lenOwn rfl rfl Tryz.underlying36 (fun _ hs => hs.own (i := 0) rfl)) ?_
  refine RunL.still rfl rfl rfl (Still.move rfl rfl) ?_
  refine RunL.nil ?_
  refine Ends.then ?_
  refine RunC.block ?_
  refine RunC.loop2 (γ := Nat) (keep := [(1, _), (4, _), (17, _)]) (hkeep := [_]) (fun a => a ≤ g.length) (fun a => g.length - a) (fun a => [(18, iv a)]) (fun a => [HL.own 3 1 (.slice (some ⟨b15, 0, none⟩) g.length g.length) g.length (ints (negTo g.length a))]) 0 (by omega) (Fr.Sub.cons rfl (Fr.Sub.nil _)) (Fr.Sub.cons rfl (Fr.Sub.cons rfl (Fr.Sub.cons rfl (Fr.Sub.nil _)))) (HSub.pick 0 (by rw [negTo_zero]; rfl) (HSub.pick 0 rfl (HSub.nil _))) ?_
  rintro a ha
  refine RunC.seq ?_
  refine RunC.region ?_
  refine RunL.still rfl rfl rfl (Still.lss rfl rfl rfl) ?_
  refine RunL.nil ?_
  refine Ends.then ?_
  refine RunC.seq ?_
  refine RunC.cond rfl (fun h19 => ?_) (fun h19 => ?_)
  · have h19 := of_decide_eq_true h19
    refine RunC.skip ?_
    refine Ends.then ?_
    refine RunC.seq ?_
    refine RunC.block ?_
    refine RunC.seq ?_
    refine RunC.region ?_
    refine RunL.still rfl rfl rfl (Still.move rfl rfl) ?_
    refine RunL.still rfl rfl rfl (Still.assign rfl rfl) ?_
    refine RunL.nil ?_
    refine Ends.then ?_
    refine RunC.region ?_
    refine RunL.still rfl rfl rfl (Still.move rfl rfl) ?_
    refine RunL.still rfl rfl rfl (Still.move rfl rfl) ?_
    refine RunL.still rfl rfl rfl (Still.indexOwn rfl rfl rfl Tryz.underlying36 Tryz.sizeOf3 (fun _ hs => hs.own (i := 0) rfl) (by omega)) ?_
    refine RunL.does0 rfl rfl (Does.storeOwn1 (xs' := (ints (negTo g.length (a + 1)))) rfl rfl rfl rfl (i := 0) rfl Tryz.sizeOf3 rfl (by simp [negTo_len]; omega) ((ints_set _ _ _).trans (congrArg ints (negTo_succ (by omega))))) (fun _ _ => ?_)
    refine RunL.nil ?_
    refine Ends.block ?_
    refine Ends.then ?_
    refine RunC.region ?_
    refine RunL.still rfl rfl rfl (Still.add rfl rfl rfl (fits64 (by omega) (by omega))) ?_
    refine RunL.still rfl rfl rfl (Still.move rfl rfl) ?_
    refine RunL.nil ?_
    refine Ends.again (a + 1) ?_ ?_ (Fr.Sub.app ?_ ?_) ?_
    · show _; omega
    · show _ < _; omega
    · exact Fr.Sub.cons rfl (Fr.Sub.nil _)
    · exact Fr.Sub.cons rfl (Fr.Sub.cons rfl (Fr.Sub.cons rfl (Fr.Sub.nil _)))
    · exact HSub.pick 0 rfl (HSub.pick 0 rfl (HSub.nil _))
  · have h19 := of_decide_eq_false h19
    refine RunC.exit ?_
    refine Ends.then_exit ?_
    refine Ends.then_exit ?_
    refine Ends.block_exit ?_
    refine Ends.then ?_
    refine RunC.seq ?_
    refine RunC.region ?_
    refine RunL.still rfl rfl rfl (Still.assign rfl rfl) ?_
    refine RunL.nil ?_
    refine Ends.then ?_
    refine RunC.seq ?_
    refine RunC.seq ?_
    refine RunC.region ?_
    refine RunL.still rfl rfl rfl (Still.move rfl rfl) ?_
    refine RunL.still rfl rfl rfl (Still.lenOwn rfl rfl Tryz.underlying36 (fun _ hs => hs.own (i := 0) rfl)) ?_
    refine RunL.still rfl rfl rfl (Still.move rfl rfl) ?_
    refine RunL.nil ?_
    refine Ends.then ?_
    refine RunC.block ?_
    refine RunC.loop2 (γ := Nat) (keep := [(1, _), (4, _), (26, _)]) (hkeep := [_]) (fun t => t ≤ g.length) (fun t => g.length - t) (fun t => [(6, iv (pAll g t).2), (27, iv t)]) (fun t => [HL.own 3 1 (.slice (some ⟨b15, 0, none⟩) g.length g.length) g.length (ints (pAll g t).1)]) 0 (by omega) (Fr.Sub.cons rfl (Fr.Sub.cons rfl (Fr.Sub.nil _))) (Fr.Sub.cons rfl (Fr.Sub.cons rfl (Fr.Sub.cons rfl (Fr.Sub.nil _)))) (HSub.pick 0 (by rw [show a = g.length by omega, negTo_all]; rfl) (HSub.pick 0 rfl (HSub.nil _))) ?_
    rintro t ht
    obtain ⟨hpl, hn0, hnt⟩ := pAll_ok hok t ht
    refine RunC.seq ?_
    refine RunC.region ?_
    refine RunL.still rfl rfl rfl (Still.lss rfl rfl rfl) ?_
    refine RunL.nil ?_
    refine Ends.then ?_
    refine RunC.seq ?_
    refine RunC.cond rfl (fun h28 => ?_) (fun h28 => ?_)
    · have h28 := of_decide_eq_true h28
      have htN : t < g.length := by omega
      refine RunC.skip ?_
      refine Ends.then ?_
      refine RunC.seq ?_
      refine RunC.block ?_
      refine RunC.seq ?_
      refine RunC.region ?_
      refine RunL.still rfl rfl rfl (Still.move rfl rfl) ?_
      refine RunL.still rfl rfl rfl (Still.assign rfl rfl) ?_
      refine RunL.nil ?_
      refine Ends.then ?_
      refine RunC.seq ?_
      refine RunC.seq ?_
      refine RunC.region ?_
      refine RunL.still rfl rfl rfl (Still.move rfl rfl) ?_
      refine RunL.still rfl rfl rfl (Still.move rfl rfl) ?_
      refine RunL.still rfl rfl rfl (Still.indexOwn rfl rfl rfl Tryz.underlying36 Tryz.sizeOf3 (fun _ hs => hs.own (i := 0) rfl) (by omega)) ?_
      refine RunL.still rfl rfl rfl (Still.load rfl rfl Tryz.isAgg3 (fun w hs => own_at (hs.own (i := 0) rfl) (ints_get (getD_get' (by omega))))) ?_
      refine RunL.still rfl rfl rfl (Still.geq rfl rfl rfl) ?_
      refine RunL.nil ?_
      refine Ends.then ?_
      refine RunC.cond rfl (fun h34 => ?_) (fun h34 => ?_)
      · have h34 := of_decide_eq_true h34
        refine RunC.exit ?_
        refine Ends.then_exit ?_
        refine Ends.block_exit ?_
        refine Ends.then ?_
        refine RunC.region ?_
        refine RunL.still rfl rfl rfl (Still.add rfl rfl rfl (fits64 (by omega) (by omega))) ?_
        refine RunL.still rfl rfl rfl (Still.move rfl rfl) ?_
        refine RunL.nil ?_
        refine Ends.again (t + 1) ?_ ?_ (Fr.Sub.app ?_ ?_) ?_
        · show _; omega
        · show _ < _; omega
        · exact Fr.Sub.cons (by rw [pAll_keep h34]; rfl) (Fr.Sub.cons rfl (Fr.Sub.nil _))
        · exact Fr.Sub.cons rfl (Fr.Sub.cons rfl (Fr.Sub.cons rfl (Fr.Sub.nil _)))
        · exact HSub.pick 0 (by rw [pAll_keep h34]; rfl) (HSub.pick 0 rfl (HSub.nil _))
      · have h34 := of_decide_eq_false h34
        have hge := h34
        refine RunC.skip ?_
        refine Ends.then ?_
        refine RunC.seq ?_
        refine RunC.region ?_
        refine RunL.still rfl rfl rfl (Still.move rfl rfl) ?_
        refine RunL.still rfl rfl rfl (Still.move rfl rfl) ?_
        refine RunL.still rfl rfl rfl (Still.move rfl rfl) ?_
        refine RunL.still rfl rfl rfl (Still.indexOwn rfl rfl rfl Tryz.underlying36 Tryz.sizeOf3 (fun _ hs => hs.own (i := 0) rfl) (by omega)) ?_
        refine RunL.does0 rfl rfl (Does.storeOwn1 (xs' := (ints ((pAll g t).1.set t (pAll g t).2))) rfl rfl rfl rfl (i := 0) rfl Tryz.sizeOf3 rfl (by simp; omega) (ints_set _ _ _)) (fun _ _ => ?_)
        refine RunL.nil ?_
        refine Ends.then ?_
        refine RunC.seq ?_
        refine RunC.region ?_
        refine RunL.still rfl rfl rfl (Still.move rfl rfl) ?_
        refine RunL.grows rfl rfl rfl (Grows.slice1 rfl rfl Tryz.underlying36 Tryz.sizeOf3 rfl Tryz.zeroValue3 (by decide)) (fun b40 _ => ?_)
        refine RunL.conv (fun _ hs => Sym.obj_own (k := 1) (n := 1) hs rfl (by omega)) ?_
        refine RunL.still rfl rfl rfl (Still.assign rfl rfl) ?_
        refine RunL.nil ?_
        refine Ends.then ?_
        refine RunC.seq ?_
        refine RunC.seq ?_
        refine RunC.region ?_
        refine RunL.still rfl rfl rfl (Still.assign rfl rfl) ?_
        refine RunL.nil ?_
        refine Ends.then ?_
        refine RunC.block ?_
        refine RunC.loop2 (γ := Value × BSt × Nat × Nat) (keep := [(1, _), (4, _), (6, _), (26, _), (27, _)]) (hkeep := [_]) (fun (v, s, i, k) => PSt g s ∧ pBfs g (pAll g t).2 k i s = pBfs g (pAll g t).2 g.length 0 ((pAll g t).1.set t (pAll g t).2, [t]) ∧ i + k = g.length) (fun (v, s, i, k) => k) (fun (v, s, i, k) => [(8, v), (9, iv i)]) (fun (v, s, i, k) => [HL.own 3 1 (.slice (some ⟨b15, 0, none⟩) g.length g.length) g.length (ints s.1), HL.own 3 1 v s.2.length (nints s.2)]) (.slice (some ⟨b40, 0, none⟩) 1 1, ((pAll g t).1.set t (pAll g t).2, [t]), 0, g.length) ⟨PSt.start hpl (by omega) hn0 (by omega), rfl, by omega⟩ (Fr.Sub.cons rfl (Fr.Sub.cons rfl (Fr.Sub.nil _))) (Fr.Sub.cons rfl (Fr.Sub.cons rfl (Fr.Sub.cons rfl (Fr.Sub.cons rfl (Fr.Sub.cons rfl (Fr.Sub.nil _)))))) (HSub.pick 1 rfl (HSub.pick 0 (by rfl) (HSub.pick 0 rfl (HSub.nil _)))) ?_
        rintro ⟨v, s, i, k⟩ ⟨hP, hM, hik⟩
        have hP : PSt g s := hP
        have hik : i + k = g.length := hik
        have hroom := hP.room
        refine RunC.seq ?_
        refine RunC.seq ?_
        refine RunC.region ?_
        refine RunL.still rfl rfl rfl (Still.move rfl rfl) ?_
        refine RunL.still rfl rfl rfl (Still.move rfl rfl) ?_
        refine RunL.still rfl rfl rfl (Still.lenOwn rfl rfl Tryz.underlying36 (fun _ hs => hs.own (i := 1) rfl)) ?_
        refine RunL.still rfl rfl rfl (Still.lss rfl rfl rfl) ?_
        refine RunL.nil ?_
        refine Ends.then ?_
        refine RunC.cond rfl (fun h44 => ?_) (fun h44 => ?_)
        · have h44 := of_decide_eq_true h44
          obtain ⟨u, hu⟩ := get_of_lt (l := s.2) (i := i) (by omega)
          have huN : u < g.length := hP.mem u (List.mem_of_getElem? hu)
          refine RunC.skip ?_
          refine Ends.then ?_
          refine RunC.seq ?_
          refine RunC.block ?_
          refine RunC.seq ?_
          refine RunC.drawY (.pure 0 (.pure 2 (.pure 3 (.pure 8 (.two 1 (.one 4 (.one 5 (.pure 6 (.one 7 .done)))) 4 (.two 1 (.one 5 (.pure 6 (.one 7 .done))) 5 (.one 1 (.pure 6 (.one 7 .done))))))))) (by kernel_rfl) (by kernel_rfl) ?_
          refine RunY.pure rfl rfl rfl rfl (fun _ => Still.fieldAddrL (off := 0) (off' := 0) rfl rfl Tryz.underlying24 rfl Tryz.sizeOf22 rfl) ?_
          refine RunY.pure rfl rfl rfl rfl (fun _ => Still.move rfl rfl) ?_
          refine RunY.pure rfl rfl rfl rfl (fun _ => Still.move rfl rfl) ?_
          refine RunY.pure rfl rfl rfl rfl (fun _ => Still.move rfl rfl) ?_
          refine RunY.two ?_ ?_
          ·
            refine RunY.still rfl rfl rfl rfl (Still.load rfl rfl Tryz.isAgg22 (fun _ hs => cell_nth (hs.at (i := 2) rfl) rfl)) ?_
            refine RunY.still rfl rfl rfl rfl (Still.indexOwn rfl rfl rfl Tryz.underlying36 Tryz.sizeOf3 (fun _ hs => hs.own (i := 1) rfl) (by omega)) ?_
            refine RunY.still rfl rfl rfl rfl (Still.load rfl rfl Tryz.isAgg3 (fun w hs => own_at (hs.own (i := 1) rfl) (nints_get hu))) ?_
            refine RunY.pure rfl rfl rfl rfl (fun _ => Still.indexSliceN rfl rfl rfl Tryz.underlying22 Tryz.sizeOf35 (hg.base (by omega)) (by omega)) ?_
            refine RunY.still rfl rfl rfl rfl (Still.loads rfl rfl Tryz.isAgg35 Tryz.sizeOf35 (vs := [iv (tAt g u).f0.tet, iv (tAt g u).f0.p.a0, iv (tAt g u).f0.p.a1, iv (tAt g u).f0.p.a2, iv (tAt g u).f0.p.a3, iv (tAt g u).f1.tet, iv (tAt g u).f1.p.a0, iv (tAt g u).f1.p.a1, iv (tAt g u).f1.p.a2, iv (tAt g u).f1.p.a3, iv (tAt g u).f2.tet, iv (tAt g u).f2.p.a0, iv (tAt g u).f2.p.a1, iv (tAt g u).f2.p.a2, iv (tAt g u).f2.p.a3, iv (tAt g u).f3.tet, iv (tAt g u).f3.p.a0, iv (tAt g u).f3.p.a1, iv (tAt g u).f3.p.a2, iv (tAt g u).f3.p.a3]) rfl (fun _ hs => (hg.sym hs).cell u _ (tAt_get huN))) ?_
            refine RunY.done ?_
            refine Ends.then ?_
            refine RunC.block ?_
            refine RunC.loop2 (γ := Value × Nat) (keep := [(1, _), (4, _), (6, _), (9, _), (26, _), (27, _), (54, _)]) (hkeep := [_]) (fun (v, f) => f ≤ 4) (fun (v, f) => 4 - f) (fun (v, f) => [(8, v), (55, iv f)]) (fun (v, f) => [HL.own 3 1 (.slice (some ⟨b15, 0, none⟩) g.length g.length) g.length (ints (pTo g (pAll g t).2 u s f).1), HL.own 3 1 v (pTo g (pAll g t).2 u s f).2.length (nints (pTo g (pAll g t).2 u s f).2)]) (v, 0) (Nat.zero_le 4) (Fr.Sub.cons rfl (Fr.Sub.cons rfl (Fr.Sub.nil _))) (Fr.Sub.cons rfl (Fr.Sub.cons rfl (Fr.Sub.cons rfl (Fr.Sub.cons rfl (Fr.Sub.cons rfl (Fr.Sub.cons rfl (Fr.Sub.cons rfl (Fr.Sub.nil _)))))))) (HSub.pick 0 rfl (HSub.pick 0 rfl (HSub.pick 0 rfl (HSub.nil _)))) ?_
            rintro ⟨v, f⟩ hf
            have hf : f ≤ 4 := hf
            have hP4 := pTo_ok (n := (pAll g t).2) hn0 hok huN hP f hf
            have hq4 := pTo_pre (g := g) (n := (pAll g t).2) (t := u) hu f
            have hr4 := hP4.room
            have hl4 := hP4.len
            refine RunC.seq ?_
            refine RunC.region ?_
            refine RunL.still rfl rfl rfl (Still.lss rfl rfl rfl) ?_
            refine RunL.nil ?_
            refine Ends.then ?_
            refine RunC.seq ?_
            refine RunC.cond rfl (fun h56 => ?_) (fun h56 => ?_)
            · have h56 := of_decide_eq_true h56
              have hf4 : f < 4 := by omega
              refine RunC.skip ?_
              refine Ends.then ?_
              refine RunC.seq ?_
              refine RunC.block ?_
              refine RunC.seq ?_
              refine RunC.region ?_
              refine RunL.still rfl rfl rfl (Still.indexAgg rfl rfl rfl Tryz.underlying35 Tryz.sizeOf34 Tryz.isAgg34 ⟨by omega, by omega⟩ (ttV_fAt g u hf4)) ?_
              refine RunL.grows rfl rfl rfl (Grows.alloc rfl Tryz.zeroValue34) (fun b11 _ => ?_)
              refine RunL.does0 rfl rfl (Does.store rfl rfl rfl (i := 0) rfl Tryz.sizeOf34 rfl (rfl) rfl) (fun _ _ => ?_)
              refine RunL.nil ?_
              refine Ends.then ?_
              refine RunC.seq ?_
              refine RunC.region ?_
              refine RunL.still rfl rfl rfl (Still.fieldAddrL (off := 0) (off' := 0) rfl rfl Tryz.underlying34 rfl Tryz.sizeOf3 rfl) ?_
              refine RunL.still rfl rfl rfl (Still.load rfl rfl Tryz.isAgg3 (fun _ hs => cell_nth (hs.at (i := 0) rfl) rfl)) ?_
              refine RunL.still rfl rfl rfl (Still.geq rfl rfl rfl) ?_
              refine RunL.still rfl rfl rfl (Still.move rfl rfl) ?_
              refine RunL.split (t := 61) rfl (fun h61 => ?_) (fun h61 => ?_)
              · have h61 := of_decide_eq_true h61
                have hF := okG_glued hok huN hf4 (by omega)
                have hFl := hF.lo
                have hFh := hF.hi
                refine RunL.still rfl rfl rfl (Still.move rfl rfl) ?_
                refine RunL.still rfl rfl rfl (Still.fieldAddrL (off := 0) (off' := 0) rfl rfl Tryz.underlying34 rfl Tryz.sizeOf3 rfl) ?_
                refine RunL.still rfl rfl rfl (Still.load rfl rfl Tryz.isAgg3 (fun _ hs => cell_nth (hs.at (i := 0) rfl) rfl)) ?_
                refine RunL.still rfl rfl rfl (Still.indexOwnI (m := (fAt g u f).tet.toNat) rfl rfl rfl Tryz.underlying36 Tryz.sizeOf3 (fun _ hs => hs.own (i := 1) rfl) (by omega) (by omega)) ?_
                refine RunL.still rfl rfl rfl (Still.load rfl rfl Tryz.isAgg3 (fun w hs => own_at (hs.own (i := 1) rfl) (ints_get (getD_get' (by omega))))) ?_
                refine RunL.still rfl rfl rfl (Still.lss rfl rfl rfl) ?_
                refine RunL.still rfl rfl rfl (Still.pickT rfl rfl rfl) ?_
                refine RunL.nil ?_
                refine Ends.then ?_
                refine RunC.cond rfl (fun h68 => ?_) (fun h68 => ?_)
                · have h68 := of_decide_eq_true h68
                  refine RunC.seq ?_
                  refine RunC.region ?_
                  refine RunL.still rfl rfl rfl (Still.move rfl rfl) ?_
                  refine RunL.still rfl rfl rfl (Still.fieldAddrL (off := 0) (off' := 0) rfl rfl Tryz.underlying34 rfl Tryz.sizeOf3 rfl) ?_
                  refine RunL.still rfl rfl rfl (Still.load rfl rfl Tryz.isAgg3 (fun _ hs => cell_nth (hs.at (i := 0) rfl) rfl)) ?_
                  refine RunL.still rfl rfl rfl (Still.move rfl rfl) ?_
                  refine RunL.still rfl rfl rfl (Still.indexOwnI (m := (fAt g u f).tet.toNat) rfl rfl rfl Tryz.underlying36 Tryz.sizeOf3 (fun _ hs => hs.own (i := 1) rfl) (by omega) (by omega)) ?_
                  refine RunL.does0 rfl rfl (Does.storeOwn1 (xs' := (ints ((pTo g (pAll g t).2 u s f).1.set (fAt g u f).tet.toNat (pAll g t).2))) rfl rfl rfl rfl (i := 1) rfl Tryz.sizeOf3 rfl (by simp; omega) (ints_set _ _ _)) (fun _ _ => ?_)
                  refine RunL.nil ?_
                  refine Ends.then ?_
                  refine RunC.region ?_
                  refine RunL.still rfl rfl rfl (Still.move rfl rfl) ?_
                  refine RunL.still rfl rfl rfl (Still.fieldAddrL (off := 0) (off' := 0) rfl rfl Tryz.underlying34 rfl Tryz.sizeOf3 rfl) ?_
                  refine RunL.still rfl rfl rfl (Still.load rfl rfl Tryz.isAgg3 (fun _ hs => cell_nth (hs.at (i := 0) rfl) rfl)) ?_
                  refine RunL.grows rfl rfl rfl (Grows.slice1 rfl rfl Tryz.underlying36 Tryz.sizeOf3 rfl Tryz.zeroValue3 (by decide)) (fun b77 _ => ?_)
                  refine RunL.does rfl rfl rfl (Does.appendTo (n' := ((pTo g (pAll g t).2 u s f).2.length + 1)) (xs' := (nints ((pTo g (pAll g t).2 u s f).2 ++ [(fAt g u f).tet.toNat]))) (news := [_]) rfl rfl rfl rfl (i := 3) rfl Tryz.underlying36 (by kernel_rfl : (_ : Option _) = some (some (.int .i64 0), 1, 8)) rfl rfl (fun _ hs => cells_nth (hs.at (i := 0) rfl) ⟨rfl, trivial⟩) rfl rfl (by omega) (by omega) (rfl) ((congrArg (fun z => _ ++ [iv z]) (by omega)).trans (nints_snoc _ _))) (fun v78 hv78 => ?_)
                  refine RunL.still rfl rfl rfl (Still.assign rfl rfl) ?_
                  refine RunL.nil ?_
                  refine Ends.block ?_
                  refine Ends.then ?_
                  refine RunC.region ?_
                  refine RunL.still rfl rfl rfl (Still.add rfl rfl rfl (fits64 (by omega) (by omega))) ?_
                  refine RunL.still rfl rfl rfl (Still.move rfl rfl) ?_
                  refine RunL.nil ?_
                  have hgo : pTo g (pAll g t).2 u s (f + 1) = ((pTo g (pAll g t).2 u s f).1.set (fAt g u f).tet.toNat (pAll g t).2, (pTo g (pAll g t).2 u s f).2 ++ [(fAt g u f).tet.toNat]) := pFace_go (by omega) (by omega)
                  refine Ends.again (v78, f + 1) ?_ ?_ (Fr.Sub.app ?_ ?_) ?_
                  · show f + 1 ≤ 4; omega
                  · show 4 - (f + 1) < 4 - f; omega
                  · exact Fr.Sub.cons rfl (Fr.Sub.cons rfl (Fr.Sub.nil _))
                  · exact Fr.Sub.cons rfl (Fr.Sub.cons rfl (Fr.Sub.cons rfl (Fr.Sub.cons rfl (Fr.Sub.cons rfl (Fr.Sub.cons rfl (Fr.Sub.cons rfl (Fr.Sub.nil _)))))))
                  · exact HSub.pick 2 (by rw [hgo]; rfl) (HSub.pick 2 (by rw [hgo]; simp only [List.length_append, List.length_singleton]; rfl) (HSub.pick 2 rfl (HSub.nil _)))
                · have h68 := of_decide_eq_false h68
                  refine RunC.skip ?_
                  refine Ends.block ?_
                  refine Ends.then ?_
                  refine RunC.region ?_
                  refine RunL.still rfl rfl rfl (Still.add rfl rfl rfl (fits64 (by omega) (by omega))) ?_
                  refine RunL.still rfl rfl rfl (Still.move rfl rfl) ?_
                  refine RunL.nil ?_
                  have hno : pTo g (pAll g t).2 u s (f + 1) = pTo g (pAll g t).2 u s f := pFace_no (by omega)
                  refine Ends.again (v, f + 1) ?_ ?_ (Fr.Sub.app ?_ ?_) ?_
                  · show f + 1 ≤ 4; omega
                  · show 4 - (f + 1) < 4 - f; omega
                  · exact Fr.Sub.cons rfl (Fr.Sub.cons rfl (Fr.Sub.nil _))
                  · exact Fr.Sub.cons rfl (Fr.Sub.cons rfl (Fr.Sub.cons rfl (Fr.Sub.cons rfl (Fr.Sub.cons rfl (Fr.Sub.cons rfl (Fr.Sub.cons rfl (Fr.Sub.nil _)))))))
                  · exact HSub.pick 1 (by rw [hno]; rfl) (HSub.pick 1 (by rw [hno]; rfl) (HSub.pick 1 rfl (HSub.nil _)))
              · have h61 := of_decide_eq_false h61
                refine RunL.off rfl rfl rfl ?_
                refine RunL.off rfl rfl rfl ?_
                refine RunL.off rfl rfl rfl ?_
                refine RunL.off rfl rfl rfl ?_
                refine RunL.off rfl rfl rfl ?_
                refine RunL.off rfl rfl rfl ?_
                refine RunL.still rfl rfl rfl (Still.pickF rfl rfl rfl) ?_
                refine RunL.nil ?_
                refine Ends.then ?_
                refine RunC.cond_false rfl ?_
                refine RunC.skip ?_
                refine Ends.block ?_
                refine Ends.then ?_
                refine RunC.region ?_
                refine RunL.still rfl rfl rfl (Still.add rfl rfl rfl (fits64 (by omega) (by omega))) ?_
                refine RunL.still rfl rfl rfl (Still.move rfl rfl) ?_
                refine RunL.nil ?_
                have hno : pTo g (pAll g t).2 u s (f + 1) = pTo g (pAll g t).2 u s f := pFace_no (by omega)
                refine Ends.again (v, f + 1) ?_ ?_ (Fr.Sub.app ?_ ?_) ?_
                · show f + 1 ≤ 4; omega
                · show 4 - (f + 1) < 4 - f; omega
                · exact Fr.Sub.cons rfl (Fr.Sub.cons rfl (Fr.Sub.nil _))
                · exact Fr.Sub.cons rfl (Fr.Sub.cons rfl (Fr.Sub.cons rfl (Fr.Sub.cons rfl (Fr.Sub.cons rfl (Fr.Sub.cons rfl (Fr.Sub.cons rfl (Fr.Sub.nil _)))))))
                · exact HSub.pick 1 (by rw [hno]; rfl) (HSub.pick 1 (by rw [hno]; rfl) (HSub.pick 1 rfl (HSub.nil _)))
            · have h56 := of_decide_eq_false h56
              obtain rfl : f = 4 := by omega
              refine RunC.exit ?_
              refine Ends.then_exit ?_
              refine Ends.then_exit ?_
              refine Ends.block_exit ?_
              refine Ends.block ?_
              refine Ends.then ?_
              refine RunC.region ?_
              refine RunL.still rfl rfl rfl (Still.move rfl rfl) ?_
              refine RunL.still rfl rfl rfl (Still.add rfl rfl rfl (fits64 (by omega) (by omega))) ?_
              refine RunL.still rfl rfl rfl (Still.assign rfl rfl) ?_
              refine RunL.nil ?_
              obtain ⟨k, rfl⟩ : ∃ m, k = m + 1 := ⟨k - 1, by have := (List.getElem?_eq_some_iff.1 hu).1; omega⟩
              refine Ends.again (v, pTo g (pAll g t).2 u s 4, i + 1, k) ?_ ?_ (Fr.Sub.app ?_ ?_) ?_
              · exact ⟨hP4, by rw [← hM, pBfs_step hu], by show i + 1 + k = _; omega⟩
              · exact Nat.lt_succ_self _
              · exact Fr.Sub.cons rfl (Fr.Sub.cons rfl (Fr.Sub.nil _))
              · exact Fr.Sub.cons rfl (Fr.Sub.cons rfl (Fr.Sub.cons rfl (Fr.Sub.cons rfl (Fr.Sub.cons rfl (Fr.Sub.nil _)))))
              · exact HSub.pick 0 rfl (HSub.pick 0 rfl (HSub.pick 0 rfl (HSub.nil _)))
          ·
            refine RunY.still rfl rfl rfl rfl (Still.indexOwn rfl rfl rfl Tryz.underlying36 Tryz.sizeOf3 (fun _ hs => hs.own (i := 1) rfl) (by omega)) ?_
            refine RunY.two ?_ ?_
            ·
              refine RunY.still rfl rfl rfl rfl (Still.load rfl rfl Tryz.isAgg22 (fun _ hs => cell_nth (hs.at (i := 2) rfl) rfl)) ?_
              refine RunY.still rfl rfl rfl rfl (Still.load rfl rfl Tryz.isAgg3 (fun w hs => own_at (hs.own (i := 1) rfl) (nints_get hu))) ?_
              refine RunY.pure rfl rfl rfl rfl (fun _ => Still.indexSliceN rfl rfl rfl Tryz.underlying22 Tryz.sizeOf35 (hg.base (by omega)) (by omega)) ?_
              refine RunY.still rfl rfl rfl rfl (Still.loads rfl rfl Tryz.isAgg35 Tryz.sizeOf35 (vs := [iv (tAt g u).f0.tet, iv (tAt g u).f0.p.a0, iv (tAt g u).f0.p.a1, iv (tAt g u).f0.p.a2, iv (tAt g u).f0.p.a3, iv (tAt g u).f1.tet, iv (tAt g u).f1.p.a0, iv (tAt g u).f1.p.a1, iv (tAt g u).f1.p.a2, iv (tAt g u).f1.p.a3, iv (tAt g u).f2.tet, iv (tAt g u).f2.p.a0, iv (tAt g u).f2.p.a1, iv (tAt g u).f2.p.a2, iv (tAt g u).f2.p.a3, iv (tAt g u).f3.tet, iv (tAt g u).f3.p.a0, iv (tAt g u).f3.p.a1, iv (tAt g u).f3.p.a2, iv (tAt g u).f3.p.a3]) rfl (fun _ hs => (hg.sym hs).cell u _ (tAt_get huN))) ?_
              refine RunY.done ?_
              refine Ends.then ?_
              refine RunC.block ?_
              refine RunC.loop2 (γ := Value × Nat) (keep := [(1, _), (4, _), (6, _), (9, _), (26, _), (27, _), (54, _)]) (hkeep := [_]) (fun (v, f) => f ≤ 4) (fun (v, f) => 4 - f) (fun (v, f) => [(8, v), (55, iv f)]) (fun (v, f) => [HL.own 3 1 (.slice (some ⟨b15, 0, none⟩) g.length g.length) g.length (ints (pTo g (pAll g t).2 u s f).1), HL.own 3 1 v (pTo g (pAll g t).2 u s f).2.length (nints (pTo g (pAll g t).2 u s f).2)]) (v, 0) (Nat.zero_le 4) (Fr.Sub.cons rfl (Fr.Sub.cons rfl (Fr.Sub.nil _))) (Fr.Sub.cons rfl (Fr.Sub.cons rfl (Fr.Sub.cons rfl (Fr.Sub.cons rfl (Fr.Sub.cons rfl (Fr.Sub.cons rfl (Fr.Sub.cons rfl (Fr.Sub.nil _)))))))) (HSub.pick 0 rfl (HSub.pick 0 rfl (HSub.pick 0 rfl (HSub.nil _)))) ?_
              rintro ⟨v, f⟩ hf
              have hf : f ≤ 4 := hf
              have hP4 := pTo_ok (n := (pAll g t).2) hn0 hok huN hP f hf
              have hq4 := pTo_pre (g := g) (n := (pAll g t).2) (t := u) hu f
              have hr4 := hP4.room
              have hl4 := hP4.len
              refine RunC.seq ?_
              refine RunC.region ?_
              refine RunL.still rfl rfl rfl (Still.lss rfl rfl rfl) ?_
              refine RunL.nil ?_
              refine Ends.then ?_
              refine RunC.seq ?_
              refine RunC.cond rfl (fun h56 => ?_) (fun h56 => ?_)
              · have h56 := of_decide_eq_true h56
                have hf4 : f < 4 := by omega
                refine RunC.skip ?_
                refine Ends.then ?_
                refine RunC.seq ?_
                refine RunC.block ?_
                refine RunC.seq ?_
                refine RunC.region ?_
                refine RunL.still rfl rfl rfl (Still.indexAgg rfl rfl rfl Tryz.underlying35 Tryz.sizeOf34 Tryz.isAgg34 ⟨by omega, by omega⟩ (ttV_fAt g u hf4)) ?_
                refine RunL.grows rfl rfl rfl (Grows.alloc rfl Tryz.zeroValue34) (fun b11 _ => ?_)
                refine RunL.does0 rfl rfl (Does.store rfl rfl rfl (i := 0) rfl Tryz.sizeOf34 rfl (rfl) rfl) (fun _ _ => ?_)
                refine RunL.nil ?_
                refine Ends.then ?_
                refine RunC.seq ?_
                refine RunC.region ?_
                refine RunL.still rfl rfl rfl (Still.fieldAddrL (off := 0) (off' := 0) rfl rfl Tryz.underlying34 rfl Tryz.sizeOf3 rfl) ?_
                refine RunL.still rfl rfl rfl (Still.load rfl rfl Tryz.isAgg3 (fun _ hs => cell_nth (hs.at (i := 0) rfl) rfl)) ?_
                refine RunL.still rfl rfl rfl (Still.geq rfl rfl rfl) ?_
                refine RunL.still rfl rfl rfl (Still.move rfl rfl) ?_
                refine RunL.split (t := 61) rfl (fun h61 => ?_) (fun h61 => ?_)
                · have h61 := of_decide_eq_true h61
                  have hF := okG_glued hok huN hf4 (by omega)
                  have hFl := hF.lo
                  have hFh := hF.hi
                  refine RunL.still rfl rfl rfl (Still.move rfl rfl) ?_
                  refine RunL.still rfl rfl rfl (Still.fieldAddrL (off := 0) (off' := 0) rfl rfl Tryz.underlying34 rfl Tryz.sizeOf3 rfl) ?_
                  refine RunL.still rfl rfl rfl (Still.load rfl rfl Tryz.isAgg3 (fun _ hs => cell_nth (hs.at (i := 0) rfl) rfl)) ?_
                  refine RunL.still rfl rfl rfl (Still.indexOwnI (m := (fAt g u f).tet.toNat) rfl rfl rfl Tryz.underlying36 Tryz.sizeOf3 (fun _ hs => hs.own (i := 1) rfl) (by omega) (by omega)) ?_
                  refine RunL.still rfl rfl rfl (Still.load rfl rfl Tryz.isAgg3 (fun w hs => own_at (hs.own (i := 1) rfl) (ints_get (getD_get' (by omega))))) ?_
                  refine RunL.still rfl rfl rfl (Still.lss rfl rfl rfl) ?_
                  refine RunL.still rfl rfl rfl (Still.pickT rfl rfl rfl) ?_
                  refine RunL.nil ?_
                  refine Ends.then ?_
                  refine RunC.cond rfl (fun h68 => ?_) (fun h68 => ?_)
                  · have h68 := of_decide_eq_true h68
                    refine RunC.seq ?_
                    refine RunC.region ?_
                    refine RunL.still rfl rfl rfl (Still.move rfl rfl) ?_
                    refine RunL.still rfl rfl rfl (Still.fieldAddrL (off := 0) (off' := 0) rfl rfl Tryz.underlying34 rfl Tryz.sizeOf3 rfl) ?_
                    refine RunL.still rfl rfl rfl (Still.load rfl rfl Tryz.isAgg3 (fun _ hs => cell_nth (hs.at (i := 0) rfl) rfl)) ?_
                    refine RunL.still rfl rfl rfl (Still.move rfl rfl) ?_
                    refine RunL.still rfl rfl rfl (Still.indexOwnI (m := (fAt g u f).tet.toNat) rfl rfl rfl Tryz.underlying36 Tryz.sizeOf3 (fun _ hs => hs.own (i := 1) rfl) (by omega) (by omega)) ?_
                    refine RunL.does0 rfl rfl (Does.storeOwn1 (xs' := (ints ((pTo g (pAll g t).2 u s f).1.set (fAt g u f).tet.toNat (pAll g t).2))) rfl rfl rfl rfl (i := 1) rfl Tryz.sizeOf3 rfl (by simp; omega) (ints_set _ _ _)) (fun _ _ => ?_)
                    refine RunL.nil ?_
                    refine Ends.then ?_
                    refine RunC.region ?_
                    refine RunL.still rfl rfl rfl (Still.move rfl rfl) ?_
                    refine RunL.still rfl rfl rfl (Still.fieldAddrL (off := 0) (off' := 0) rfl rfl Tryz.underlying34 rfl Tryz.sizeOf3 rfl) ?_
                    refine RunL.still rfl rfl rfl (Still.load rfl rfl Tryz.isAgg3 (fun _ hs => cell_nth (hs.at (i := 0) rfl) rfl)) ?_
                    refine RunL.grows rfl rfl rfl (Grows.slice1 rfl rfl Tryz.underlying36 Tryz.sizeOf3 rfl Tryz.zeroValue3 (by decide)) (fun b77 _ => ?_)
                    refine RunL.does rfl rfl rfl (Does.appendTo (n' := ((pTo g (pAll g t).2 u s f).2.length + 1)) (xs' := (nints ((pTo g (pAll g t).2 u s f).2 ++ [(fAt g u f).tet.toNat]))) (news := [_]) rfl rfl rfl rfl (i := 3) rfl Tryz.underlying36 (by kernel_rfl : (_ : Option _) = some (some (.int .i64 0), 1, 8)) rfl rfl (fun _ hs => cells_nth (hs.at (i := 0) rfl) ⟨rfl, trivial⟩) rfl rfl (by omega) (by omega) (rfl) ((congrArg (fun z => _ ++ [iv z]) (by omega)).trans (nints_snoc _ _))) (fun v78 hv78 => ?_)
                    refine RunL.still rfl rfl rfl (Still.assign rfl rfl) ?_
                    refine RunL.nil ?_
                    refine Ends.block ?_
                    refine Ends.then ?_
                    refine RunC.region ?_
                    refine RunL.still rfl rfl rfl (Still.add rfl rfl rfl (fits64 (by omega) (by omega))) ?_
                    refine RunL.still rfl rfl rfl (Still.move rfl rfl) ?_
                    refine RunL.nil ?_
                    have hgo : pTo g (pAll g t).2 u s (f + 1) = ((pTo g (pAll g t).2 u s f).1.set (fAt g u f).tet.toNat (pAll g t).2, (pTo g (pAll g t).2 u s f).2 ++ [(fAt g u f).tet.toNat]) := pFace_go (by omega) (by omega)
                    refine Ends.again (v78, f + 1) ?_ ?_ (Fr.Sub.app ?_ ?_) ?_
                    · show f + 1 ≤ 4; omega
                    · show 4 - (f + 1) < 4 - f; omega
                    · exact Fr.Sub.cons rfl (Fr.Sub.cons rfl (Fr.Sub.nil _))
                    · exact Fr.Sub.cons rfl (Fr.Sub.cons rfl (Fr.Sub.cons rfl (Fr.Sub.cons rfl (Fr.Sub.cons rfl (Fr.Sub.cons rfl (Fr.Sub.cons rfl (Fr.Sub.nil _)))))))
                    · exact HSub.pick 2 (by rw [hgo]; rfl) (HSub.pick 2 (by rw [hgo]; simp only [List.length_append, List.length_singleton]; rfl) (HSub.pick 2 rfl (HSub.nil _)))
                  · have h68 := of_decide_eq_false h68
                    refine RunC.skip ?_
                    refine Ends.block ?_
                    refine Ends.then ?_
                    refine RunC.region ?_
                    refine RunL.still rfl rfl rfl (Still.add rfl rfl rfl (fits64 (by omega) (by omega))) ?_
                    refine RunL.still rfl rfl rfl (Still.move rfl rfl) ?_
                    refine RunL.nil ?_
                    have hno : pTo g (pAll g t).2 u s (f + 1) = pTo g (pAll g t).2 u s f := pFace_no (by omega)
                    refine Ends.again (v, f + 1) ?_ ?_ (Fr.Sub.app ?_ ?_) ?_
                    · show f + 1 ≤ 4; omega
                    · show 4 - (f + 1) < 4 - f; omega
                    · exact Fr.Sub.cons rfl (Fr.Sub.cons rfl (Fr.Sub.nil _))
                    · exact Fr.Sub.cons rfl (Fr.Sub.cons rfl (Fr.Sub.cons rfl (Fr.Sub.cons rfl (Fr.Sub.cons rfl (Fr.Sub.cons rfl (Fr.Sub.cons rfl (Fr.Sub.nil _)))))))
                    · exact HSub.pick 1 (by rw [hno]; rfl) (HSub.pick 1 (by rw [hno]; rfl) (HSub.pick 1 rfl (HSub.nil _)))
                · have h61 := of_decide_eq_false h61
                  refine RunL.off rfl rfl rfl ?_
                  refine RunL.off rfl rfl rfl ?_
                  refine RunL.off rfl rfl rfl ?_
                  refine RunL.off rfl rfl rfl ?_
                  refine RunL.off rfl rfl rfl ?_
                  refine RunL.off rfl rfl rfl ?_
                  refine RunL.still rfl rfl rfl (Still.pickF rfl rfl rfl) ?_
                  refine RunL.nil ?_
                  refine Ends.then ?_
                  refine RunC.cond_false rfl ?_
                  refine RunC.skip ?_
                  refine Ends.block ?_
                  refine Ends.then ?_
                  refine RunC.region ?_
                  refine RunL.still rfl rfl rfl (Still.add rfl rfl rfl (fits64 (by omega) (by omega))) ?_
                  refine RunL.still rfl rfl rfl (Still.move rfl rfl) ?_
                  refine RunL.nil ?_
                  have hno : pTo g (pAll g t).2 u s (f + 1) = pTo g (pAll g t).2 u s f := pFace_no (by omega)
                  refine Ends.again (v, f + 1) ?_ ?_ (Fr.Sub.app ?_ ?_) ?_
                  · show f + 1 ≤ 4; omega
                  · show 4 - (f + 1) < 4 - f; omega
                  · exact Fr.Sub.cons rfl (Fr.Sub.cons rfl (Fr.Sub.nil _))
                  · exact Fr.Sub.cons rfl (Fr.Sub.cons rfl (Fr.Sub.cons rfl (Fr.Sub.cons rfl (Fr.Sub.cons rfl (Fr.Sub.cons rfl (Fr.Sub.cons rfl (Fr.Sub.nil _)))))))
                  · exact HSub.pick 1 (by rw [hno]; rfl) (HSub.pick 1 (by rw [hno]; rfl) (HSub.pick 1 rfl (HSub.nil _)))
              · have h56 := of_decide_eq_false h56
                obtain rfl : f = 4 := by omega
                refine RunC.exit ?_
                refine Ends.then_exit ?_
                refine Ends.then_exit ?_
                refine Ends.block_exit ?_
                refine Ends.block ?_
                refine Ends.then ?_
                refine RunC.region ?_
                refine RunL.still rfl rfl rfl (Still.move rfl rfl) ?_
                refine RunL.still rfl rfl rfl (Still.add rfl rfl rfl (fits64 (by omega) (by omega))) ?_
                refine RunL.still rfl rfl rfl (Still.assign rfl rfl) ?_
                refine RunL.nil ?_
                obtain ⟨k, rfl⟩ : ∃ m, k = m + 1 := ⟨k - 1, by have := (List.getElem?_eq_some_iff.1 hu).1; omega⟩
                refine Ends.again (v, pTo g (pAll g t).2 u s 4, i + 1, k) ?_ ?_ (Fr.Sub.app ?_ ?_) ?_
                · exact ⟨hP4, by rw [← hM, pBfs_step hu], by show i + 1 + k = _; omega⟩
                · exact Nat.lt_succ_self _
                · exact Fr.Sub.cons rfl (Fr.Sub.cons rfl (Fr.Sub.nil _))
                · exact Fr.Sub.cons rfl (Fr.Sub.cons rfl (Fr.Sub.cons rfl (Fr.Sub.cons rfl (Fr.Sub.cons rfl (Fr.Sub.nil _)))))
                · exact HSub.pick 0 rfl (HSub.pick 0 rfl (HSub.pick 0 rfl (HSub.nil _)))
            ·
              refine RunY.still rfl rfl rfl rfl (Still.load rfl rfl Tryz.isAgg3 (fun w hs => own_at (hs.own (i := 1) rfl) (nints_get hu))) ?_
              refine RunY.still rfl rfl rfl rfl (Still.load rfl rfl Tryz.isAgg22 (fun _ hs => cell_nth (hs.at (i := 2) rfl) rfl)) ?_
              refine RunY.pure rfl rfl rfl rfl (fun _ => Still.indexSliceN rfl rfl rfl Tryz.underlying22 Tryz.sizeOf35 (hg.base (by omega)) (by omega)) ?_
              refine RunY.still rfl rfl rfl rfl (Still.loads rfl rfl Tryz.isAgg35 Tryz.sizeOf35 (vs := [iv (tAt g u).f0.tet, iv (tAt g u).f0.p.a0, iv (tAt g u).f0.p.a1, iv (tAt g u).f0.p.a2, iv (tAt g u).f0.p.a3, iv (tAt g u).f1.tet, iv (tAt g u).f1.p.a0, iv (tAt g u).f1.p.a1, iv (tAt g u).f1.p.a2, iv (tAt g u).f1.p.a3, iv (tAt g u).f2.tet, iv (tAt g u).f2.p.a0, iv (tAt g u).f2.p.a1, iv (tAt g u).f2.p.a2, iv (tAt g u).f2.p.a3, iv (tAt g u).f3.tet, iv (tAt g u).f3.p.a0, iv (tAt g u).f3.p.a1, iv (tAt g u).f3.p.a2, iv (tAt g u).f3.p.a3]) rfl (fun _ hs => (hg.sym hs).cell u _ (tAt_get huN))) ?_
              refine RunY.done ?_
              refine Ends.then ?_
              refine RunC.block ?_
              refine RunC.loop2 (γ := Value × Nat) (keep := [(1, _), (4, _), (6, _), (9, _), (26, _), (27, _), (54, _)]) (hkeep := [_]) (fun (v, f) => f ≤ 4) (fun (v, f) => 4 - f) (fun (v, f) => [(8, v), (55, iv f)]) (fun (v, f) => [HL.own 3 1 (.slice (some ⟨b15, 0, none⟩) g.length g.length) g.length (ints (pTo g (pAll g t).2 u s f).1), HL.own 3 1 v (pTo g (pAll g t).2 u s f).2.length (nints (pTo g (pAll g t).2 u s f).2)]) (v, 0) (Nat.zero_le 4) (Fr.Sub.cons rfl (Fr.Sub.cons rfl (Fr.Sub.nil _))) (Fr.Sub.cons rfl (Fr.Sub.cons rfl (Fr.Sub.cons rfl (Fr.Sub.cons rfl (Fr.Sub.cons rfl (Fr.Sub.cons rfl (Fr.Sub.cons rfl (Fr.Sub.nil _)))))))) (HSub.pick 0 rfl (HSub.pick 0 rfl (HSub.pick 0 rfl (HSub.nil _)))) ?_
              rintro ⟨v, f⟩ hf
              have hf : f ≤ 4 := hf
              have hP4 := pTo_ok (n := (pAll g t).2) hn0 hok huN hP f hf
              have hq4 := pTo_pre (g := g) (n := (pAll g t).2) (t := u) hu f
              have hr4 := hP4.room
              have hl4 := hP4.len
              refine RunC.seq ?_
              refine RunC.region ?_
              refine RunL.still rfl rfl rfl (Still.lss rfl rfl rfl) ?_
              refine RunL.nil ?_
              refine Ends.then ?_
              refine RunC.seq ?_
              refine RunC.cond rfl (fun h56 => ?_) (fun h56 => ?_)
              · have h56 := of_decide_eq_true h56
                have hf4 : f < 4 := by omega
                refine RunC.skip ?_
                refine Ends.then ?_
                refine RunC.seq ?_
                refine RunC.block ?_
                refine RunC.seq ?_
                refine RunC.region ?_
                refine RunL.still rfl rfl rfl (Still.indexAgg rfl rfl rfl Tryz.underlying35 Tryz.sizeOf34 Tryz.isAgg34 ⟨by omega, by omega⟩ (ttV_fAt g u hf4)) ?_
                refine RunL.grows rfl rfl rfl (Grows.alloc rfl Tryz.zeroValue34) (fun b11 _ => ?_)
                refine RunL.does0 rfl rfl (Does.store rfl rfl rfl (i := 0) rfl Tryz.sizeOf34 rfl (rfl) rfl) (fun _ _ => ?_)
                refine RunL.nil ?_
                refine Ends.then ?_
                refine RunC.seq ?_
                refine RunC.region ?_
                refine RunL.still rfl rfl rfl (Still.fieldAddrL (off := 0) (off' := 0) rfl rfl Tryz.underlying34 rfl Tryz.sizeOf3 rfl) ?_
                refine RunL.still rfl rfl rfl (Still.load rfl rfl Tryz.isAgg3 (fun _ hs => cell_nth (hs.at (i := 0) rfl) rfl)) ?_
                refine RunL.still rfl rfl rfl (Still.geq rfl rfl rfl) ?_
                refine RunL.still rfl rfl rfl (Still.move rfl rfl) ?_
                refine RunL.split (t := 61) rfl (fun h61 => ?_) (fun h61 => ?_)
                · have h61 := of_decide_eq_true h61
                  have hF := okG_glued hok huN hf4 (by omega)
                  have hFl := hF.lo
                  have hFh := hF.hi
                  refine RunL.still rfl rfl rfl (Still.move rfl rfl) ?_
                  refine RunL.still rfl rfl rfl (Still.fieldAddrL (off := 0) (off' := 0) rfl rfl Tryz.underlying34 rfl Tryz.sizeOf3 rfl) ?_
                  refine RunL.still rfl rfl rfl (Still.load rfl rfl Tryz.isAgg3 (fun _ hs => cell_nth (hs.at (i := 0) rfl) rfl)) ?_
                  refine RunL.still rfl rfl rfl (Still.indexOwnI (m := (fAt g u f).tet.toNat) rfl rfl rfl Tryz.underlying36 Tryz.sizeOf3 (fun _ hs => hs.own (i := 1) rfl) (by omega) (by omega)) ?_
                  refine RunL.still rfl rfl rfl (Still.load rfl rfl Tryz.isAgg3 (fun w hs => own_at (hs.own (i := 1) rfl) (ints_get (getD_get' (by omega))))) ?_
                  refine RunL.still rfl rfl rfl (Still.lss rfl rfl rfl) ?_
                  refine RunL.still rfl rfl rfl (Still.pickT rfl rfl rfl) ?_
                  refine RunL.nil ?_
                  refine Ends.then ?_
                  refine RunC.cond rfl (fun h68 => ?_) (fun h68 => ?_)
                  · have h68 := of_decide_eq_true h68
                    refine RunC.seq ?_
                    refine RunC.region ?_
                    refine RunL.still rfl rfl rfl (Still.move rfl rfl) ?_
                    refine RunL.still rfl rfl rfl (Still.fieldAddrL (off := 0) (off' := 0) rfl rfl Tryz.underlying34 rfl Tryz.sizeOf3 rfl) ?_
                    refine RunL.still rfl rfl rfl (Still.load rfl rfl Tryz.isAgg3 (fun _ hs => cell_nth (hs.at (i := 0) rfl) rfl)) ?_
                    refine RunL.still rfl rfl rfl (Still.move rfl rfl) ?_
                    refine RunL.still rfl rfl rfl (Still.indexOwnI (m := (fAt g u f).tet.toNat) rfl rfl rfl Tryz.underlying36 Tryz.sizeOf3 (fun _ hs => hs.own (i := 1) rfl) (by omega) (by omega)) ?_
                    refine RunL.does0 rfl rfl (Does.storeOwn1 (xs' := (ints ((pTo g (pAll g t).2 u s f).1.set (fAt g u f).tet.toNat (pAll g t).2))) rfl rfl rfl rfl (i := 1) rfl Tryz.sizeOf3 rfl (by simp; omega) (ints_set _ _ _)) (fun _ _ => ?_)
                    refine RunL.nil ?_
                    refine Ends.then ?_
                    refine RunC.region ?_
                    refine RunL.still rfl rfl rfl (Still.move rfl rfl) ?_
                    refine RunL.still rfl rfl rfl (Still.fieldAddrL (off := 0) (off' := 0) rfl rfl Tryz.underlying34 rfl Tryz.sizeOf3 rfl) ?_
                    refine RunL.still rfl rfl rfl (Still.load rfl rfl Tryz.isAgg3 (fun _ hs => cell_nth (hs.at (i := 0) rfl) rfl)) ?_
                    refine RunL.grows rfl rfl rfl (Grows.slice1 rfl rfl Tryz.underlying36 Tryz.sizeOf3 rfl Tryz.zeroValue3 (by decide)) (fun b77 _ => ?_)
                    refine RunL.does rfl rfl rfl (Does.appendTo (n' := ((pTo g (pAll g t).2 u s f).2.length + 1)) (xs' := (nints ((pTo g (pAll g t).2 u s f).2 ++ [(fAt g u f).tet.toNat]))) (news := [_]) rfl rfl rfl rfl (i := 3) rfl Tryz.underlying36 (by kernel_rfl : (_ : Option _) = some (some (.int .i64 0), 1, 8)) rfl rfl (fun _ hs => cells_nth (hs.at (i := 0) rfl) ⟨rfl, trivial⟩) rfl rfl (by omega) (by omega) (rfl) ((congrArg (fun z => _ ++ [iv z]) (by omega)).trans (nints_snoc _ _))) (fun v78 hv78 => ?_)
                    refine RunL.still rfl rfl rfl (Still.assign rfl rfl) ?_
                    refine RunL.nil ?_
                    refine Ends.block ?_
                    refine Ends.then ?_
                    refine RunC.region ?_
                    refine RunL.still rfl rfl rfl (Still.add rfl rfl rfl (fits64 (by omega) (by omega))) ?_
                    refine RunL.still rfl rfl rfl (Still.move rfl rfl) ?_
                    refine RunL.nil ?_
                    have hgo : pTo g (pAll g t).2 u s (f + 1) = ((pTo g (pAll g t).2 u s f).1.set (fAt g u f).tet.toNat (pAll g t).2, (pTo g (pAll g t).2 u s f).2 ++ [(fAt g u f).tet.toNat]) := pFace_go (by omega) (by omega)
                    refine Ends.again (v78, f + 1) ?_ ?_ (Fr.Sub.app ?_ ?_) ?_
                    · show f + 1 ≤ 4; omega
                    · show 4 - (f + 1) < 4 - f; omega
                    · exact Fr.Sub.cons rfl (Fr.Sub.cons rfl (Fr.Sub.nil _))
                    · exact Fr.Sub.cons rfl (Fr.Sub.cons rfl (Fr.Sub.cons rfl (Fr.Sub.cons rfl (Fr.Sub.cons rfl (Fr.Sub.cons rfl (Fr.Sub.cons rfl (Fr.Sub.nil _)))))))
                    · exact HSub.pick 2 (by rw [hgo]; rfl) (HSub.pick 2 (by rw [hgo]; simp only [List.length_append, List.length_singleton]; rfl) (HSub.pick 2 rfl (HSub.nil _)))
                  · have h68 := of_decide_eq_false h68
                    refine RunC.skip ?_
                    refine Ends.block ?_
                    refine Ends.then ?_
                    refine RunC.region ?_
                    refine RunL.still rfl rfl rfl (Still.add rfl rfl rfl (fits64 (by omega) (by omega))) ?_
                    refine RunL.still rfl rfl rfl (Still.move rfl rfl) ?_
                    refine RunL.nil ?_
                    have hno : pTo g (pAll g t).2 u s (f + 1) = pTo g (pAll g t).2 u s f := pFace_no (by omega)
                    refine Ends.again (v, f + 1) ?_ ?_ (Fr.Sub.app ?_ ?_) ?_
                    · show f + 1 ≤ 4; omega
                    · show 4 - (f + 1) < 4 - f; omega
                    · exact Fr.Sub.cons rfl (Fr.Sub.cons rfl (Fr.Sub.nil _))
                    · exact Fr.Sub.cons rfl (Fr.Sub.cons rfl (Fr.Sub.cons rfl (Fr.Sub.cons rfl (Fr.Sub.cons rfl (Fr.Sub.cons rfl (Fr.Sub.cons rfl (Fr.Sub.nil _)))))))
                    · exact HSub.pick 1 (by rw [hno]; rfl) (HSub.pick 1 (by rw [hno]; rfl) (HSub.pick 1 rfl (HSub.nil _)))
                · have h61 := of_decide_eq_false h61
                  refine RunL.off rfl rfl rfl ?_
                  refine RunL.off rfl rfl rfl ?_
                  refine RunL.off rfl rfl rfl ?_
                  refine RunL.off rfl rfl rfl ?_
                  refine RunL.off rfl rfl rfl ?_
                  refine RunL.off rfl rfl rfl ?_
                  refine RunL.still rfl rfl rfl (Still.pickF rfl rfl rfl) ?_
                  refine RunL.nil ?_
                  refine Ends.then ?_
                  refine RunC.cond_false rfl ?_
                  refine RunC.skip ?_
                  refine Ends.block ?_
                  refine Ends.then ?_
                  refine RunC.region ?_
                  refine RunL.still rfl rfl rfl (Still.add rfl rfl rfl (fits64 (by omega) (by omega))) ?_
                  refine RunL.still rfl rfl rfl (Still.move rfl rfl) ?_
                  refine RunL.nil ?_
                  have hno : pTo g (pAll g t).2 u s (f + 1) = pTo g (pAll g t).2 u s f := pFace_no (by omega)
                  refine Ends.again (v, f + 1) ?_ ?_ (Fr.Sub.app ?_ ?_) ?_
                  · show f + 1 ≤ 4; omega
                  · show 4 - (f + 1) < 4 - f; omega
                  · exact Fr.Sub.cons rfl (Fr.Sub.cons rfl (Fr.Sub.nil _))
                  · exact Fr.Sub.cons rfl (Fr.Sub.cons rfl (Fr.Sub.cons rfl (Fr.Sub.cons rfl (Fr.Sub.cons rfl (Fr.Sub.cons rfl (Fr.Sub.cons rfl (Fr.Sub.nil _)))))))
                  · exact HSub.pick 1 (by rw [hno]; rfl) (HSub.pick 1 (by rw [hno]; rfl) (HSub.pick 1 rfl (HSub.nil _)))
              · have h56 := of_decide_eq_false h56
                obtain rfl : f = 4 := by omega
                refine RunC.exit ?_
                refine Ends.then_exit ?_
                refine Ends.then_exit ?_
                refine Ends.block_exit ?_
                refine Ends.block ?_
                refine Ends.then ?_
                refine RunC.region ?_
                refine RunL.still rfl rfl rfl (Still.move rfl rfl) ?_
                refine RunL.still rfl rfl rfl (Still.add rfl rfl rfl (fits64 (by omega) (by omega))) ?_
                refine RunL.still rfl rfl rfl (Still.assign rfl rfl) ?_
                refine RunL.nil ?_
                obtain ⟨k, rfl⟩ : ∃ m, k = m + 1 := ⟨k - 1, by have := (List.getElem?_eq_some_iff.1 hu).1; omega⟩
                refine Ends.again (v, pTo g (pAll g t).2 u s 4, i + 1, k) ?_ ?_ (Fr.Sub.app ?_ ?_) ?_
                · exact ⟨hP4, by rw [← hM, pBfs_step hu], by show i + 1 + k = _; omega⟩
                · exact Nat.lt_succ_self _
                · exact Fr.Sub.cons rfl (Fr.Sub.cons rfl (Fr.Sub.nil _))
                · exact Fr.Sub.cons rfl (Fr.Sub.cons rfl (Fr.Sub.cons rfl (Fr.Sub.cons rfl (Fr.Sub.cons rfl (Fr.Sub.nil _)))))
                · exact HSub.pick 0 rfl (HSub.pick 0 rfl (HSub.pick 0 rfl (HSub.nil _)))
        · have h44 := of_decide_eq_false h44
          refine RunC.exit ?_
          refine Ends.then_exit ?_
          refine Ends.then_exit ?_
          refine Ends.block_exit ?_
          refine Ends.then ?_
          refine RunC.region ?_
          refine RunL.still rfl rfl rfl (Still.move rfl rfl) ?_
          refine RunL.still rfl rfl rfl (Still.add rfl rfl rfl (fits64 (by omega) (by omega))) ?_
          refine RunL.still rfl rfl rfl (Still.assign rfl rfl) ?_
          refine RunL.nil ?_
          refine Ends.block ?_
          refine Ends.then ?_
          refine RunC.region ?_
          refine RunL.still rfl rfl rfl (Still.add rfl rfl rfl (fits64 (by omega) (by omega))) ?_
          refine RunL.still rfl rfl rfl (Still.move rfl rfl) ?_
          refine RunL.nil ?_
          have hfin : pAll g (t + 1) = (s.1, (pAll g t).2 + 1) := by rw [pAll_new hge, ← hM, pBfs_done (by omega)]
          refine Ends.again (t + 1) ?_ ?_ (Fr.Sub.app ?_ ?_) ?_
          · show _; omega
          · show _ < _; omega
          · exact Fr.Sub.cons (by rw [hfin]; rfl) (Fr.Sub.cons rfl (Fr.Sub.nil _))
          · exact Fr.Sub.cons rfl (Fr.Sub.cons rfl (Fr.Sub.cons rfl (Fr.Sub.nil _)))
          · exact HSub.pick 0 (by rw [hfin]; rfl) (HSub.pick 1 rfl (HSub.nil _))
    · have h28 := of_decide_eq_false h28
      obtain rfl : t = g.length := by omega
      refine RunC.exit ?_
      refine Ends.then_exit ?_
      refine Ends.then_exit ?_
      refine Ends.block_exit ?_
      refine Ends.then ?_
      refine RunC.seq ?_
      refine RunC.region ?_
      refine RunL.still rfl rfl rfl (Still.move rfl rfl) ?_
      refine RunL.still rfl rfl rfl (Still.move rfl rfl) ?_
      refine RunL.still rfl rfl rfl (Still.assign rfl rfl) ?_
      refine RunL.still rfl rfl rfl (Still.assign rfl rfl) ?_
      refine RunL.nil ?_
      refine Ends.then ?_
      refine RunC.ret ?_
      refine Ends.leave (.inl rfl) (fun _ _ ok => results2 Tryz.results49 (Holds.tmp rfl) (Holds.tmp rfl) ok) (fun w1 hs => ?_)
      exact Ret.intro b15 trivial (by rfl) (HSub.pick 0 rfl (HSub.nil _)) hs

theorem gl_Parts (base : Option Addr) (A : Addr) (cap : Nat) (g : Glu) (w : World) (hg : GluAt w base A g) (hok : okG g = true) : Gives Tryz.prog 16 #[gluV base cap g] w Nil (fun _ : Nat => True) (fun b => .tuple #[.slice (some ⟨b, 0, none⟩) g.length g.length, iv 0]) (fun b => [HL.own 3 1 (.slice (some ⟨b, 0, none⟩) g.length g.length) g.length (ints (partsOf g))]) := by
  refine fn_of_run (S := Nil) (args := [gluV base cap g]) (n := 18) (L := []) Tryz.func16 rfl Tryz.ntmps16 (Nat.le_of_ble_eq_true rfl) (Sym.nil _ _) ?_
  change RunC _ _ _ [(0, _)] _
  refine RunC.seq ?_
  refine RunC.region ?_
  refine RunL.grows rfl rfl rfl (Grows.box rfl rfl) (fun b1 _ => ?_)
  refine RunL.still rfl rfl rfl (Still.assign rfl rfl) ?_
  refine RunL.still rfl rfl rfl (Still.assign rfl rfl) ?_
  refine RunL.nil ?_
  refine Ends.then ?_
  refine RunC.seq ?_
  refine RunC.seq ?_
  refine RunC.region ?_
  refine RunL.still rfl rfl rfl (Still.loads rfl rfl Tryz.isAgg24 Tryz.sizeOf24 (vs := [_]) rfl (fun _ hs => cells_nth (hs.at (i := 0) rfl) ⟨rfl, trivial⟩)) ?_
  refine RunL.grows rfl rfl rfl (Grows.call (vs := #[_]) rfl rfl Tryz.call14 (fun w hs => gl_Check base A cap g w (hg.sym hs))) (fun _ _ => ?_)
  refine RunL.still rfl rfl rfl (Still.assign rfl rfl) ?_
  refine RunL.nil ?_
  refine Ends.then ?_
  refine RunC.seq ?_
  refine RunC.region ?_
  refine RunL.still rfl rfl rfl (Still.move rfl rfl) ?_
  refine RunL.still rfl rfl rfl (Still.neq rfl rfl rfl) ?_
  refine RunL.nil ?_
  refine Ends.then ?_
  refine RunC.cond rfl (fun h10 => ?_) (fun h10 => ?_)
  · have h10 := of_decide_eq_true h10
    exact absurd (chkG_ok hok) h10
  · have h10 := of_decide_eq_false h10
    refine RunC.skip ?_
    refine Ends.then ?_
    refine RunC.seq ?_
    refine RunC.region ?_
    refine RunL.still rfl rfl rfl (Still.loads rfl rfl Tryz.isAgg24 Tryz.sizeOf24 (vs := [_]) rfl (fun _ hs => cells_nth (hs.at (i := 0) rfl) ⟨rfl, trivial⟩)) ?_
    refine RunL.grows rfl rfl rfl (Grows.call (vs := #[_]) rfl rfl Tryz.call49 (fun w hs => gl_parts base A cap g w (hg.sym hs) hok)) (fun pb _ => ?_)
    refine RunL.still rfl rfl rfl (Still.move rfl rfl) ?_
    refine RunL.still rfl rfl rfl (Still.extractN rfl rfl rfl) ?_
    refine RunL.still rfl rfl rfl (Still.extractN rfl rfl rfl) ?_
    refine RunL.still rfl rfl rfl (Still.assign rfl rfl) ?_
    refine RunL.still rfl rfl rfl (Still.assign rfl rfl) ?_
    refine RunL.nil ?_
    refine Ends.then ?_
    refine RunC.seq ?_
    refine RunC.region ?_
    refine RunL.still rfl rfl rfl (Still.move rfl rfl) ?_
    refine RunL.still rfl rfl rfl (Still.assign rfl rfl) ?_
    refine RunL.still rfl rfl rfl (Still.assign rfl rfl) ?_
    refine RunL.nil ?_
    refine Ends.then ?_
    refine RunC.ret ?_
    refine Ends.leave (.inl rfl) (fun _ _ ok => results2 Tryz.results16 (Holds.tmp rfl) (Holds.tmp rfl) ok) (fun w1 hs => ?_)
    exact Ret.intro pb trivial rfl (HSub.pick 0 rfl (HSub.nil _)) hs

theorem rf_Parts (base : Option Addr) (A : Addr) (cap : Nat) (g : Glu) (w : World) (hg : GluAt w base A g) (hok : okG g = true) : Gives Tryz.prog 30 #[gluV base cap g] w Nil (fun _ : Nat => True) (fun b => .tuple #[.slice (some ⟨b, 0, none⟩) g.length g.length, iv 0]) (fun b => [HL.own 3 1 (.slice (some ⟨b, 0, none⟩) g.length g.length) g.length (ints (partsOf g))]) := by
  have hlen := hg.len
  have h1000 := okG_len hok
  refine fn_of_run (S := Nil) (args := [gluV base cap g]) (n := 86) (L := []) Tryz.func30 rfl Tryz.ntmps30 (Nat.le_of_ble_eq_true rfl) (Sym.nil _ _) ?_
  change RunC _ _ _ [(0, _)] _
  refine RunC.seq ?_
  refine RunC.region ?_
  refine RunL.grows rfl rfl rfl (Grows.box rfl rfl) (fun b1 _ => ?_)
  refine RunL.still rfl rfl rfl (Still.assign rfl rfl) ?_
  refine RunL.still rfl rfl rfl (Still.assign rfl rfl) ?_
  refine RunL.nil ?_
  refine Ends.then ?_
  refine RunC.seq ?_
  refine RunC.seq ?_
  refine RunC.region ?_
  refine RunL.still rfl rfl rfl (Still.loads rfl rfl Tryz.isAgg24 Tryz.sizeOf24 (vs := [_]) rfl (fun _ hs => cells_nth (hs.at (i := 0) rfl) ⟨rfl, trivial⟩)) ?_
  refine RunL.grows rfl rfl rfl (Grows.call (vs := #[_]) rfl rfl Tryz.call11 (fun w hs => rf_Check base A cap g w (hg.sym hs))) (fun _ _ => ?_)
  refine RunL.still rfl rfl rfl (Still.neq rfl rfl rfl) ?_
  refine RunL.nil ?_
  refine Ends.then ?_
  refine RunC.cond rfl (fun h14 => ?_) (fun h14 => ?_)
  · have h14 := of_decide_eq_true h14
    exact absurd (chkG_ok hok) h14
  · have h14 := of_decide_eq_false h14
    refine RunC.skip ?_
    refine Ends.then ?_
    refine RunC.seq ?_
    refine RunC.region ?_
    refine RunL.still rfl rfl rfl (Still.fieldAddrL (off := 0) (off' := 0) rfl rfl Tryz.underlying24 rfl Tryz.sizeOf22 rfl) ?_
    refine RunL.still rfl rfl rfl (Still.load rfl rfl Tryz.isAgg22 (fun _ hs => cell_nth (hs.at (i := 0) rfl) rfl)) ?_
    refine RunL.still rfl rfl rfl (Still.lenSlice rfl rfl Tryz.underlying22) ?_
    refine RunL.grows rfl rfl rfl (Grows.make (n := g.length) (xs := (ints (List.replicate g.length 0))) rfl rfl rfl Tryz.underlying36 (by kernel_rfl : (_ : Option _) = some (some (.int .i64 0), 1, 8)) rfl (by omega) (by omega) (zeros_one _ _ |>.trans (ints_replicate _ _))) (fun b18 _ => ?_)
    refine RunL.still rfl rfl rfl (Still.assign rfl rfl) ?_
    refine RunL.nil ?_
    refine Ends.then ?_
    refine RunC.seq ?_
    refine RunC.seq ?_
    refine RunC.region ?_
    refine RunL.still rfl rfl rfl (Still.assign rfl rfl) ?_
    refine RunL.nil ?_
    refine Ends.then ?_
    refine RunC.block ?_
    refine RunC.loop2 (γ := Nat) (keep := [(1, _), (4, _)]) (hkeep := [_]) (fun a => a ≤ g.length) (fun a => g.length - a) (fun a => [(5, iv a)]) (fun a => [HL.own 3 1 (.slice (some ⟨b18, 0, none⟩) g.length g.length) g.length (ints (negTo g.length a))]) 0 (by omega) (Fr.Sub.cons rfl (Fr.Sub.nil _)) (Fr.Sub.cons rfl (Fr.Sub.cons rfl (Fr.Sub.nil _))) (HSub.pick 0 (by rw [negTo_zero]; rfl) (HSub.pick 0 rfl (HSub.nil _))) ?_
    rintro a ha
    refine RunC.seq ?_
    refine RunC.seq ?_
    refine RunC.region ?_
    refine RunL.still rfl rfl rfl (Still.move rfl rfl) ?_
    refine RunL.still rfl rfl rfl (Still.move rfl rfl) ?_
    refine RunL.still rfl rfl rfl (Still.lenOwn rfl rfl Tryz.underlying36 (fun _ hs => hs.own (i := 0) rfl)) ?_
    refine RunL.still rfl rfl rfl (Still.lss rfl rfl rfl) ?_
    refine RunL.nil ?_
    refine Ends.then ?_
    refine RunC.cond rfl (fun h22 => ?_) (fun h22 => ?_)
    · have h22 := of_decide_eq_true h22
      refine RunC.skip ?_
      refine Ends.then ?_
      refine RunC.seq ?_
      refine RunC.block ?_
      refine RunC.region ?_
      refine RunL.still rfl rfl rfl (Still.move rfl rfl) ?_
      refine RunL.still rfl rfl rfl (Still.move rfl rfl) ?_
      refine RunL.still rfl rfl rfl (Still.indexOwn rfl rfl rfl Tryz.underlying36 Tryz.sizeOf3 (fun _ hs => hs.own (i := 0) rfl) (by omega)) ?_
      refine RunL.does0 rfl rfl (Does.storeOwn1 (xs' := (ints (negTo g.length (a + 1)))) rfl rfl rfl rfl (i := 0) rfl Tryz.sizeOf3 rfl (by simp [negTo_len]; omega) ((ints_set _ _ _).trans (congrArg ints (negTo_succ (by omega))))) (fun _ _ => ?_)
      refine RunL.nil ?_
      refine Ends.block ?_
      refine Ends.then ?_
      refine RunC.region ?_
      refine RunL.still rfl rfl rfl (Still.move rfl rfl) ?_
      refine RunL.still rfl rfl rfl (Still.add rfl rfl rfl (fits64 (by omega) (by omega))) ?_
      refine RunL.still rfl rfl rfl (Still.assign rfl rfl) ?_
      refine RunL.nil ?_
      refine Ends.again (a + 1) ?_ ?_ (Fr.Sub.app ?_ ?_) ?_
      · show _; omega
      · show _ < _; omega
      · exact Fr.Sub.cons rfl (Fr.Sub.nil _)
      · exact Fr.Sub.cons rfl (Fr.Sub.cons rfl (Fr.Sub.nil _))
      · exact HSub.pick 0 rfl (HSub.pick 0 rfl (HSub.nil _))
    · have h22 := of_decide_eq_false h22
      refine RunC.exit ?_
      refine Ends.then_exit ?_
      refine Ends.then_exit ?_
      refine Ends.block_exit ?_
      refine Ends.then ?_
      refine RunC.seq ?_
      refine RunC.region ?_
      refine RunL.still rfl rfl rfl (Still.assign rfl rfl) ?_
      refine RunL.nil ?_
      refine Ends.then ?_
      refine RunC.seq ?_
      refine RunC.seq ?_
      refine RunC.region ?_
      refine RunL.still rfl rfl rfl (Still.assign rfl rfl) ?_
      refine RunL.nil ?_
      refine Ends.then ?_
      refine RunC.block ?_
      refine RunC.loop2 (γ := Nat) (keep := [(1, _), (4, _)]) (hkeep := [_]) (fun t => t ≤ g.length) (fun t => g.length - t) (fun t => [(6, iv (pAll g t).2), (7, iv t)]) (fun t => [HL.own 3 1 (.slice (some ⟨b18, 0, none⟩) g.length g.length) g.length (ints (pAll g t).1)]) 0 (by omega) (Fr.Sub.cons rfl (Fr.Sub.cons rfl (Fr.Sub.nil _))) (Fr.Sub.cons rfl (Fr.Sub.cons rfl (Fr.Sub.nil _))) (HSub.pick 0 (by rw [show a = g.length by omega, negTo_all]; rfl) (HSub.pick 0 rfl (HSub.nil _))) ?_
      rintro t ht
      obtain ⟨hpl, hn0, hnt⟩ := pAll_ok hok t ht
      refine RunC.seq ?_
      refine RunC.seq ?_
      refine RunC.region ?_
      refine RunL.still rfl rfl rfl (Still.move rfl rfl) ?_
      refine RunL.still rfl rfl rfl (Still.move rfl rfl) ?_
      refine RunL.still rfl rfl rfl (Still.lenOwn rfl rfl Tryz.underlying36 (fun _ hs => hs.own (i := 0) rfl)) ?_
      refine RunL.still rfl rfl rfl (Still.lss rfl rfl rfl) ?_
      refine RunL.nil ?_
      refine Ends.then ?_
      refine RunC.cond rfl (fun h31 => ?_) (fun h31 => ?_)
      · have h31 := of_decide_eq_true h31
        have htN : t < g.length := by omega
        refine RunC.skip ?_
        refine Ends.then ?_
        refine RunC.seq ?_
        refine RunC.block ?_
        refine RunC.seq ?_
        refine RunC.seq ?_
        refine RunC.region ?_
        refine RunL.still rfl rfl rfl (Still.move rfl rfl) ?_
        refine RunL.still rfl rfl rfl (Still.move rfl rfl) ?_
        refine RunL.still rfl rfl rfl (Still.indexOwn rfl rfl rfl Tryz.underlying36 Tryz.sizeOf3 (fun _ hs => hs.own (i := 0) rfl) (by omega)) ?_
        refine RunL.still rfl rfl rfl (Still.load rfl rfl Tryz.isAgg3 (fun w hs => own_at (hs.own (i := 0) rfl) (ints_get (getD_get' (by omega))))) ?_
        refine RunL.still rfl rfl rfl (Still.geq rfl rfl rfl) ?_
        refine RunL.nil ?_
        refine Ends.then ?_
        refine RunC.cond rfl (fun h38 => ?_) (fun h38 => ?_)
        · have h38 := of_decide_eq_true h38
          refine RunC.exit ?_
          refine Ends.then_exit ?_
          refine Ends.block_exit ?_
          refine Ends.then ?_
          refine RunC.region ?_
          refine RunL.still rfl rfl rfl (Still.move rfl rfl) ?_
          refine RunL.still rfl rfl rfl (Still.add rfl rfl rfl (fits64 (by omega) (by omega))) ?_
          refine RunL.still rfl rfl rfl (Still.assign rfl rfl) ?_
          refine RunL.nil ?_
          refine Ends.again (t + 1) ?_ ?_ (Fr.Sub.app ?_ ?_) ?_
          · show _; omega
          · show _ < _; omega
          · exact Fr.Sub.cons (by rw [pAll_keep h38]; rfl) (Fr.Sub.cons rfl (Fr.Sub.nil _))
          · exact Fr.Sub.cons rfl (Fr.Sub.cons rfl (Fr.Sub.nil _))
          · exact HSub.pick 0 (by rw [pAll_keep h38]; rfl) (HSub.pick 0 rfl (HSub.nil _))
        · have h38 := of_decide_eq_false h38
          have hge := h38
          refine RunC.skip ?_
          refine Ends.then ?_
          refine RunC.seq ?_
          refine RunC.region ?_
          refine RunL.still rfl rfl rfl (Still.move rfl rfl) ?_
          refine RunL.grows rfl rfl rfl (Grows.slice1 rfl rfl Tryz.underlying36 Tryz.sizeOf3 rfl Tryz.zeroValue3 (by decide)) (fun b40 _ => ?_)
          refine RunL.conv (fun _ hs => Sym.obj_own (k := 1) (n := 1) hs rfl (by omega)) ?_
          refine RunL.still rfl rfl rfl (Still.assign rfl rfl) ?_
          refine RunL.nil ?_
          refine Ends.then ?_
          refine RunC.seq ?_
          refine RunC.region ?_
          refine RunL.still rfl rfl rfl (Still.move rfl rfl) ?_
          refine RunL.still rfl rfl rfl (Still.move rfl rfl) ?_
          refine RunL.still rfl rfl rfl (Still.move rfl rfl) ?_
          refine RunL.still rfl rfl rfl (Still.indexOwn rfl rfl rfl Tryz.underlying36 Tryz.sizeOf3 (fun _ hs => hs.own (i := 1) rfl) (by omega)) ?_
          refine RunL.does0 rfl rfl (Does.storeOwn1 (xs' := (ints ((pAll g t).1.set t (pAll g t).2))) rfl rfl rfl rfl (i := 1) rfl Tryz.sizeOf3 rfl (by simp; omega) (ints_set _ _ _)) (fun _ _ => ?_)
          refine RunL.nil ?_
          refine Ends.then ?_
          refine RunC.seq ?_
          refine RunC.seq ?_
          refine RunC.region ?_
          refine RunL.still rfl rfl rfl (Still.assign rfl rfl) ?_
          refine RunL.nil ?_
          refine Ends.then ?_
          refine RunC.block ?_
          refine RunC.loop2 (γ := Value × BSt × Nat × Nat) (keep := [(1, _), (4, _), (6, _), (7, _)]) (hkeep := [_]) (fun (v, s, i, k) => PSt g s ∧ pBfs g (pAll g t).2 k i s = pBfs g (pAll g t).2 g.length 0 ((pAll g t).1.set t (pAll g t).2, [t]) ∧ i + k = g.length) (fun (v, s, i, k) => k) (fun (v, s, i, k) => [(8, v), (9, iv i)]) (fun (v, s, i, k) => [HL.own 3 1 (.slice (some ⟨b18, 0, none⟩) g.length g.length) g.length (ints s.1), HL.own 3 1 v s.2.length (nints s.2)]) (.slice (some ⟨b40, 0, none⟩) 1 1, ((pAll g t).1.set t (pAll g t).2, [t]), 0, g.length) ⟨PSt.start hpl (by omega) hn0 (by omega), rfl, by omega⟩ (Fr.Sub.cons rfl (Fr.Sub.cons rfl (Fr.Sub.nil _))) (Fr.Sub.cons rfl (Fr.Sub.cons rfl (Fr.Sub.cons rfl (Fr.Sub.cons rfl (Fr.Sub.nil _))))) (HSub.pick 1 rfl (HSub.pick 0 (by rfl) (HSub.pick 0 rfl (HSub.nil _)))) ?_
          rintro ⟨v, s, i, k⟩ ⟨hP, hM, hik⟩
          have hP : PSt g s := hP
          have hik : i + k = g.length := hik
          have hroom := hP.room
          refine RunC.seq ?_
          refine RunC.seq ?_
          refine RunC.region ?_
          refine RunL.still rfl rfl rfl (Still.move rfl rfl) ?_
          refine RunL.still rfl rfl rfl (Still.move rfl rfl) ?_
          refine RunL.still rfl rfl rfl (Still.lenOwn rfl rfl Tryz.underlying36 (fun _ hs => hs.own (i := 1) rfl)) ?_
          refine RunL.still rfl rfl rfl (Still.lss rfl rfl rfl) ?_
          refine RunL.nil ?_
          refine Ends.then ?_
          refine RunC.cond rfl (fun h48 => ?_) (fun h48 => ?_)
          · have h48 := of_decide_eq_true h48
            obtain ⟨u, hu⟩ := get_of_lt (l := s.2) (i := i) (by omega)
            have huN : u < g.length := hP.mem u (List.mem_of_getElem? hu)
            refine RunC.skip ?_
            refine Ends.then ?_
            refine RunC.seq ?_
            refine RunC.block ?_
            refine RunC.seq ?_
            refine RunC.region ?_
            refine RunL.still rfl rfl rfl (Still.assign rfl rfl) ?_
            refine RunL.nil ?_
            refine Ends.then ?_
            refine RunC.block ?_
            refine RunC.loop2 (γ := Value × Nat) (keep := [(1, _), (4, _), (6, _), (7, _), (9, _)]) (hkeep := [_]) (fun (v, f) => f ≤ 4) (fun (v, f) => 4 - f) (fun (v, f) => [(8, v), (10, iv f)]) (fun (v, f) => [HL.own 3 1 (.slice (some ⟨b18, 0, none⟩) g.length g.length) g.length (ints (pTo g (pAll g t).2 u s f).1), HL.own 3 1 v (pTo g (pAll g t).2 u s f).2.length (nints (pTo g (pAll g t).2 u s f).2)]) (v, 0) (Nat.zero_le 4) (Fr.Sub.cons rfl (Fr.Sub.cons rfl (Fr.Sub.nil _))) (Fr.Sub.cons rfl (Fr.Sub.cons rfl (Fr.Sub.cons rfl (Fr.Sub.cons rfl (Fr.Sub.cons rfl (Fr.Sub.nil _)))))) (HSub.pick 0 rfl (HSub.pick 0 rfl (HSub.pick 0 rfl (HSub.nil _)))) ?_
            rintro ⟨v, f⟩ hf
            have hf : f ≤ 4 := hf
            have hP4 := pTo_ok (n := (pAll g t).2) hn0 hok huN hP f hf
            have hq4 := pTo_pre (g := g) (n := (pAll g t).2) (t := u) hu f
            have hr4 := hP4.room
            have hl4 := hP4.len
            refine RunC.seq ?_
            refine RunC.seq ?_
            refine RunC.region ?_
            refine RunL.still rfl rfl rfl (Still.move rfl rfl) ?_
            refine RunL.still rfl rfl rfl (Still.lss rfl rfl rfl) ?_
            refine RunL.nil ?_
            refine Ends.then ?_
            refine RunC.cond rfl (fun h52 => ?_) (fun h52 => ?_)
            · have h52 := of_decide_eq_true h52
              have hf4 : f < 4 := by omega
              refine RunC.skip ?_
              refine Ends.then ?_
              refine RunC.seq ?_
              refine RunC.block ?_
              refine RunC.seq ?_
              refine RunC.draw 11 (.still 0 (.still 1 (.still 2 (.still 3 (.still 4 (.still 5 (.still 6 (.still 7 (.still 8 (.still 9 (.still 10 .done))))))))))) (by kernel_rfl) (by kernel_rfl) ?_
              refine RunG.still rfl rfl rfl rfl (Still.fieldAddrL (off := 0) (off' := 0) rfl rfl Tryz.underlying24 rfl Tryz.sizeOf22 rfl) ?_
              refine RunG.still rfl rfl rfl rfl (Still.load rfl rfl Tryz.isAgg22 (fun _ hs => cell_nth (hs.at (i := 2) rfl) rfl)) ?_
              refine RunG.still rfl rfl rfl rfl (Still.move rfl rfl) ?_
              refine RunG.still rfl rfl rfl rfl (Still.move rfl rfl) ?_
              have hi4 := (List.getElem?_eq_some_iff.1 hq4).1
              refine RunG.still rfl rfl rfl rfl (Still.indexOwn rfl rfl rfl Tryz.underlying36 Tryz.sizeOf3 (fun _ hs => hs.own (i := 1) rfl) (by omega)) ?_
              refine RunG.still rfl rfl rfl rfl (Still.load rfl rfl Tryz.isAgg3 (fun w hs => own_at (hs.own (i := 1) rfl) (nints_get hq4))) ?_
              refine RunG.still rfl rfl rfl rfl (Still.move rfl rfl) ?_
              refine RunG.still rfl rfl rfl rfl (Still.indexSliceN rfl rfl rfl Tryz.underlying22 Tryz.sizeOf35 (hg.base (by omega)) (by omega)) ?_
              refine RunG.still rfl rfl rfl rfl (Still.indexArrN rfl rfl rfl Tryz.underlying35 Tryz.sizeOf34 (by omega)) ?_
              refine RunG.still rfl rfl rfl rfl (Still.fieldAddrA (off := 0) rfl rfl Tryz.underlying34 rfl Tryz.sizeOf3 rfl) ?_
              refine RunG.still rfl rfl rfl rfl (Still.load (v := iv (fAt g u f).tet) rfl rfl Tryz.isAgg3 (fun _ hs => (hg.sym hs).tet (tAt_get huN) hf4)) ?_
              refine RunG.done ?_
              show RunL _ _ _ [_] _ _
              refine RunL.still rfl rfl rfl (Still.assign rfl rfl) ?_
              refine RunL.nil ?_
              refine Ends.then ?_
              refine RunC.seq ?_
              refine RunC.region ?_
              refine RunL.still rfl rfl rfl (Still.move rfl rfl) ?_
              refine RunL.still rfl rfl rfl (Still.geq rfl rfl rfl) ?_
              refine RunL.still rfl rfl rfl (Still.move rfl rfl) ?_
              refine RunL.split (t := 68) rfl (fun h68 => ?_) (fun h68 => ?_)
              · have h68 := of_decide_eq_true h68
                have hF := okG_glued hok huN hf4 (by omega)
                have hFl := hF.lo
                have hFh := hF.hi
                refine RunL.still rfl rfl rfl (Still.move rfl rfl) ?_
                refine RunL.still rfl rfl rfl (Still.move rfl rfl) ?_
                refine RunL.still rfl rfl rfl (Still.indexOwnI (m := (fAt g u f).tet.toNat) rfl rfl rfl Tryz.underlying36 Tryz.sizeOf3 (fun _ hs => hs.own (i := 0) rfl) (by omega) (by omega)) ?_
                refine RunL.still rfl rfl rfl (Still.load rfl rfl Tryz.isAgg3 (fun w hs => own_at (hs.own (i := 0) rfl) (ints_get (getD_get' (by omega))))) ?_
                refine RunL.still rfl rfl rfl (Still.lss rfl rfl rfl) ?_
                refine RunL.still rfl rfl rfl (Still.pickT rfl rfl rfl) ?_
                refine RunL.nil ?_
                refine Ends.then ?_
                refine RunC.cond rfl (fun h74 => ?_) (fun h74 => ?_)
                · have h74 := of_decide_eq_true h74
                  refine RunC.seq ?_
                  refine RunC.region ?_
                  refine RunL.still rfl rfl rfl (Still.move rfl rfl) ?_
                  refine RunL.still rfl rfl rfl (Still.move rfl rfl) ?_
                  refine RunL.still rfl rfl rfl (Still.move rfl rfl) ?_
                  refine RunL.still rfl rfl rfl (Still.indexOwnI (m := (fAt g u f).tet.toNat) rfl rfl rfl Tryz.underlying36 Tryz.sizeOf3 (fun _ hs => hs.own (i := 0) rfl) (by omega) (by omega)) ?_
                  refine RunL.does0 rfl rfl (Does.storeOwn1 (xs' := (ints ((pTo g (pAll g t).2 u s f).1.set (fAt g u f).tet.toNat (pAll g t).2))) rfl rfl rfl rfl (i := 0) rfl Tryz.sizeOf3 rfl (by simp; omega) (ints_set _ _ _)) (fun _ _ => ?_)
                  refine RunL.nil ?_
                  refine Ends.then ?_
                  refine RunC.region ?_
                  refine RunL.still rfl rfl rfl (Still.move rfl rfl) ?_
                  refine RunL.still rfl rfl rfl (Still.move rfl rfl) ?_
                  refine RunL.grows rfl rfl rfl (Grows.slice1 rfl rfl Tryz.underlying36 Tryz.sizeOf3 rfl Tryz.zeroValue3 (by decide)) (fun b81 _ => ?_)
                  refine RunL.does rfl rfl rfl (Does.appendTo (n' := ((pTo g (pAll g t).2 u s f).2.length + 1)) (xs' := (nints ((pTo g (pAll g t).2 u s f).2 ++ [(fAt g u f).tet.toNat]))) (news := [_]) rfl rfl rfl rfl (i := 2) rfl Tryz.underlying36 (by kernel_rfl : (_ : Option _) = some (some (.int .i64 0), 1, 8)) rfl rfl (fun _ hs => cells_nth (hs.at (i := 0) rfl) ⟨rfl, trivial⟩) rfl rfl (by omega) (by omega) (rfl) ((congrArg (fun z => _ ++ [iv z]) (by omega)).trans (nints_snoc _ _))) (fun v82 hv82 => ?_)
                  refine RunL.still rfl rfl rfl (Still.assign rfl rfl) ?_
                  refine RunL.nil ?_
                  refine Ends.block ?_
                  refine Ends.then ?_
                  refine RunC.region ?_
                  refine RunL.still rfl rfl rfl (Still.move rfl rfl) ?_
                  refine RunL.still rfl rfl rfl (Still.add rfl rfl rfl (fits64 (by omega) (by omega))) ?_
                  refine RunL.still rfl rfl rfl (Still.assign rfl rfl) ?_
                  refine RunL.nil ?_
                  have hgo : pTo g (pAll g t).2 u s (f + 1) = ((pTo g (pAll g t).2 u s f).1.set (fAt g u f).tet.toNat (pAll g t).2, (pTo g (pAll g t).2 u s f).2 ++ [(fAt g u f).tet.toNat]) := pFace_go (by omega) (by omega)
                  refine Ends.again (v82, f + 1) ?_ ?_ (Fr.Sub.app ?_ ?_) ?_
                  · show f + 1 ≤ 4; omega
                  · show 4 - (f + 1) < 4 - f; omega
                  · exact Fr.Sub.cons rfl (Fr.Sub.cons rfl (Fr.Sub.nil _))
                  · exact Fr.Sub.cons rfl (Fr.Sub.cons rfl (Fr.Sub.cons rfl (Fr.Sub.cons rfl (Fr.Sub.cons rfl (Fr.Sub.nil _)))))
                  · exact HSub.pick 1 (by rw [hgo]; rfl) (HSub.pick 1 (by rw [hgo]; simp only [List.length_append, List.length_singleton]; rfl) (HSub.pick 1 rfl (HSub.nil _)))
                · have h74 := of_decide_eq_false h74
                  refine RunC.skip ?_
                  refine Ends.block ?_
                  refine Ends.then ?_
                  refine RunC.region ?_
                  refine RunL.still rfl rfl rfl (Still.move rfl rfl) ?_
                  refine RunL.still rfl rfl rfl (Still.add rfl rfl rfl (fits64 (by omega) (by omega))) ?_
                  refine RunL.still rfl rfl rfl (Still.assign rfl rfl) ?_
                  refine RunL.nil ?_
                  have hno : pTo g (pAll g t).2 u s (f + 1) = pTo g (pAll g t).2 u s f := pFace_no (by omega)
                  refine Ends.again (v, f + 1) ?_ ?_ (Fr.Sub.app ?_ ?_) ?_
                  · show f + 1 ≤ 4; omega
                  · show 4 - (f + 1) < 4 - f; omega
                  · exact Fr.Sub.cons rfl (Fr.Sub.cons rfl (Fr.Sub.nil _))
                  · exact Fr.Sub.cons rfl (Fr.Sub.cons rfl (Fr.Sub.cons rfl (Fr.Sub.cons rfl (Fr.Sub.cons rfl (Fr.Sub.nil _)))))
                  · exact HSub.pick 0 (by rw [hno]; rfl) (HSub.pick 0 (by rw [hno]; rfl) (HSub.pick 0 rfl (HSub.nil _)))
              · have h68 := of_decide_eq_false h68
                refine RunL.off rfl rfl rfl ?_
                refine RunL.off rfl rfl rfl ?_
                refine RunL.off rfl rfl rfl ?_
                refine RunL.off rfl rfl rfl ?_
                refine RunL.off rfl rfl rfl ?_
                refine RunL.still rfl rfl rfl (Still.pickF rfl rfl rfl) ?_
                refine RunL.nil ?_
                refine Ends.then ?_
                refine RunC.cond_false rfl ?_
                refine RunC.skip ?_
                refine Ends.block ?_
                refine Ends.then ?_
                refine RunC.region ?_
                refine RunL.still rfl rfl rfl (Still.move rfl rfl) ?_
                refine RunL.still rfl rfl rfl (Still.add rfl rfl rfl (fits64 (by omega) (by omega))) ?_
                refine RunL.still rfl rfl rfl (Still.assign rfl rfl) ?_
                refine RunL.nil ?_
                have hno : pTo g (pAll g t).2 u s (f + 1) = pTo g (pAll g t).2 u s f := pFace_no (by omega)
                refine Ends.again (v, f + 1) ?_ ?_ (Fr.Sub.app ?_ ?_) ?_
                · show f + 1 ≤ 4; omega
                · show 4 - (f + 1) < 4 - f; omega
                · exact Fr.Sub.cons rfl (Fr.Sub.cons rfl (Fr.Sub.nil _))
                · exact Fr.Sub.cons rfl (Fr.Sub.cons rfl (Fr.Sub.cons rfl (Fr.Sub.cons rfl (Fr.Sub.cons rfl (Fr.Sub.nil _)))))
                · exact HSub.pick 0 (by rw [hno]; rfl) (HSub.pick 0 (by rw [hno]; rfl) (HSub.pick 0 rfl (HSub.nil _)))
            · have h52 := of_decide_eq_false h52
              obtain rfl : f = 4 := by omega
              refine RunC.exit ?_
              refine Ends.then_exit ?_
              refine Ends.then_exit ?_
              refine Ends.block_exit ?_
              refine Ends.block ?_
              refine Ends.then ?_
              refine RunC.region ?_
              refine RunL.still rfl rfl rfl (Still.move rfl rfl) ?_
              refine RunL.still rfl rfl rfl (Still.add rfl rfl rfl (fits64 (by omega) (by omega))) ?_
              refine RunL.still rfl rfl rfl (Still.assign rfl rfl) ?_
              refine RunL.nil ?_
              obtain ⟨k, rfl⟩ : ∃ m, k = m + 1 := ⟨k - 1, by have := (List.getElem?_eq_some_iff.1 hu).1; omega⟩
              refine Ends.again (v, pTo g (pAll g t).2 u s 4, i + 1, k) ?_ ?_ (Fr.Sub.app ?_ ?_) ?_
              · exact ⟨hP4, by rw [← hM, pBfs_step hu], by show i + 1 + k = _; omega⟩
              · exact Nat.lt_succ_self _
              · exact Fr.Sub.cons rfl (Fr.Sub.cons rfl (Fr.Sub.nil _))
              · exact Fr.Sub.cons rfl (Fr.Sub.cons rfl (Fr.Sub.cons rfl (Fr.Sub.cons rfl (Fr.Sub.nil _))))
              · exact HSub.pick 0 rfl (HSub.pick 0 rfl (HSub.pick 0 rfl (HSub.nil _)))
          · have h48 := of_decide_eq_false h48
            refine RunC.exit ?_
            refine Ends.then_exit ?_
            refine Ends.then_exit ?_
            refine Ends.block_exit ?_
            refine Ends.then ?_
            refine RunC.region ?_
            refine RunL.still rfl rfl rfl (Still.move rfl rfl) ?_
            refine RunL.still rfl rfl rfl (Still.add rfl rfl rfl (fits64 (by omega) (by omega))) ?_
            refine RunL.still rfl rfl rfl (Still.assign rfl rfl) ?_
            refine RunL.nil ?_
            refine Ends.block ?_
            refine Ends.then ?_
            refine RunC.region ?_
            refine RunL.still rfl rfl rfl (Still.move rfl rfl) ?_
            refine RunL.still rfl rfl rfl (Still.add rfl rfl rfl (fits64 (by omega) (by omega))) ?_
            refine RunL.still rfl rfl rfl (Still.assign rfl rfl) ?_
            refine RunL.nil ?_
            have hfin : pAll g (t + 1) = (s.1, (pAll g t).2 + 1) := by rw [pAll_new hge, ← hM, pBfs_done (by omega)]
            refine Ends.again (t + 1) ?_ ?_ (Fr.Sub.app ?_ ?_) ?_
            · show _; omega
            · show _ < _; omega
            · exact Fr.Sub.cons (by rw [hfin]; rfl) (Fr.Sub.cons rfl (Fr.Sub.nil _))
            · exact Fr.Sub.cons rfl (Fr.Sub.cons rfl (Fr.Sub.nil _))
            · exact HSub.pick 0 (by rw [hfin]; rfl) (HSub.pick 1 rfl (HSub.nil _))
      · have h31 := of_decide_eq_false h31
        obtain rfl : t = g.length := by omega
        refine RunC.exit ?_
        refine Ends.then_exit ?_
        refine Ends.then_exit ?_
        refine Ends.block_exit ?_
        refine Ends.then ?_
        refine RunC.seq ?_
        refine RunC.region ?_
        refine RunL.still rfl rfl rfl (Still.move rfl rfl) ?_
        refine RunL.still rfl rfl rfl (Still.assign rfl rfl) ?_
        refine RunL.still rfl rfl rfl (Still.assign rfl rfl) ?_
        refine RunL.nil ?_
        refine Ends.then ?_
        refine RunC.ret ?_
        refine Ends.leave (.inl rfl) (fun _ _ ok => results2 Tryz.results30 (Holds.tmp rfl) (Holds.tmp rfl) ok) (fun w1 hs => ?_)
        exact Ret.intro b18 trivial rfl (HSub.pick 0 rfl (HSub.nil _)) hs

end Go.Proofs
/- Orientations of gluings: contracts of both texts. -/
namespace Go.Proofs
open Go Go.V
set_option maxRecDepth 20000
theorem gl_Orient (base : Option Addr) (A : Addr) (cap : Nat) (g : Glu) (w : World) (hg : GluAt w base A g) (hok : okG g = true) : Gives Tryz.prog 15 #[gluV base cap g] w Nil (fun _ : Nat => True) (fun b => oriV g b) (fun b => oriH g b) := by
  have hlen := hg.len
  have h1000 := okG_len hok
  refine fn_of_run (S := Nil) (args := [gluV base cap g]) (n := 95) (L := []) Tryz.func15 rfl Tryz.ntmps15 (Nat.le_of_ble_eq_true rfl) (Sym.nil _ _) ?_
  change RunC _ _ _ [(0, _)] _
  refine RunC.seq ?_
  refine RunC.region ?_
  refine RunL.grows rfl rfl rfl (Grows.box rfl rfl) (fun b1 _ => ?_)
  refine RunL.still rfl rfl rfl (Still.assign rfl rfl) ?_
  refine RunL.still rfl rfl rfl (Still.assign rfl rfl) ?_
  refine RunL.still rfl rfl rfl (Still.assign rfl rfl) ?_
  refine RunL.nil ?_
  refine Ends.then ?_
  refine RunC.seq ?_
  refine RunC.seq ?_
  refine RunC.region ?_
  refine RunL.still rfl rfl rfl (Still.loads rfl rfl Tryz.isAgg24 Tryz.sizeOf24 (vs := [_]) rfl (fun _ hs => cells_nth (hs.at (i := 0) rfl) ⟨rfl, trivial⟩)) ?_
  refine RunL.grows rfl rfl rfl (Grows.call (vs := #[_]) rfl rfl Tryz.call14 (fun w hs => gl_Check base A cap g w (hg.sym hs))) (fun _ _ => ?_)
  refine RunL.still rfl rfl rfl (Still.assign rfl rfl) ?_
  refine RunL.nil ?_
  refine Ends.then ?_
  refine RunC.seq ?_
  refine RunC.region ?_
  refine RunL.still rfl rfl rfl (Still.move rfl rfl) ?_
  refine RunL.still rfl rfl rfl (Still.neq rfl rfl rfl) ?_
  refine RunL.nil ?_
  refine Ends.then ?_
  refine RunC.cond rfl (fun h16 => ?_) (fun h16 => ?_)
  · have h16 := of_decide_eq_true h16
    exact absurd (chkG_ok hok) h16
  · have h16 := of_decide_eq_false h16
    refine RunC.skip ?_
    refine Ends.then ?_
    refine RunC.seq ?_
    refine RunC.region ?_
    refine RunL.still rfl rfl rfl (Still.fieldAddrL (off := 0) (off' := 0) rfl rfl Tryz.underlying24 rfl Tryz.sizeOf22 rfl) ?_
    refine RunL.still rfl rfl rfl (Still.load rfl rfl Tryz.isAgg22 (fun _ hs => cell_nth (hs.at (i := 0) rfl) rfl)) ?_
    refine RunL.still rfl rfl rfl (Still.lenSlice rfl rfl Tryz.underlying22) ?_
    refine RunL.grows rfl rfl rfl (Grows.make (n := g.length) (xs := (ints (List.replicate g.length 0))) rfl rfl rfl Tryz.underlying36 (by kernel_rfl : (_ : Option _) = some (some (.int .i64 0), 1, 8)) rfl (by omega) (by omega) (zeros_one _ _ |>.trans (ints_replicate _ _))) (fun b21 _ => ?_)
    refine RunL.still rfl rfl rfl (Still.assign rfl rfl) ?_
    refine RunL.nil ?_
    refine Ends.then ?_
    refine RunC.seq ?_
    refine RunC.seq ?_
    refine RunC.region ?_
    refine RunL.still rfl rfl rfl (Still.move rfl rfl) ?_
    refine RunL.still rfl rfl rfl (Still.lenOwn rfl rfl Tryz.underlying36 (fun _ hs => hs.own (i := 0) rfl)) ?_
    refine RunL.still rfl rfl rfl (Still.move rfl rfl) ?_
    refine RunL.nil ?_
    refine Ends.then ?_
    refine RunC.block ?_
    refine RunC.loop2 (γ := Nat × List Int) (keep := [(1, _), (6, _), (23, _)]) (hkeep := [_]) (fun (t, out) => t ≤ g.length ∧ oAll g t = some out) (fun (t, out) => g.length - t) (fun (t, out) => [(24, iv t)]) (fun (t, out) => [HL.own 3 1 (.slice (some ⟨b21, 0, none⟩) g.length g.length) g.length (ints out)]) (0, List.replicate g.length 0) ⟨by omega, rfl⟩ (Fr.Sub.cons rfl (Fr.Sub.nil _)) (Fr.Sub.cons rfl (Fr.Sub.cons rfl (Fr.Sub.cons rfl (Fr.Sub.nil _)))) (HSub.pick 0 rfl (HSub.pick 0 rfl (HSub.nil _))) ?_
    rintro ⟨t, out⟩ ⟨ht, hA⟩
    have ht : t ≤ g.length := ht
    have hA : oAll g t = some out := hA
    have hOA := oAll_ok hok t ht hA
    have hol := hOA.len
    refine RunC.seq ?_
    refine RunC.region ?_
    refine RunL.still rfl rfl rfl (Still.lss rfl rfl rfl) ?_
    refine RunL.nil ?_
    refine Ends.then ?_
    refine RunC.seq ?_
    refine RunC.cond rfl (fun h25 => ?_) (fun h25 => ?_)
    · have h25 := of_decide_eq_true h25
      have htN : t < g.length := by omega
      refine RunC.skip ?_
      refine Ends.then ?_
      refine RunC.seq ?_
      refine RunC.block ?_
      refine RunC.seq ?_
      refine RunC.region ?_
      refine RunL.still rfl rfl rfl (Still.move rfl rfl) ?_
      refine RunL.still rfl rfl rfl (Still.assign rfl rfl) ?_
      refine RunL.nil ?_
      refine Ends.then ?_
      refine RunC.seq ?_
      refine RunC.seq ?_
      refine RunC.region ?_
      refine RunL.still rfl rfl rfl (Still.move rfl rfl) ?_
      refine RunL.still rfl rfl rfl (Still.move rfl rfl) ?_
      refine RunL.still rfl rfl rfl (Still.indexOwn rfl rfl rfl Tryz.underlying36 Tryz.sizeOf3 (fun _ hs => hs.own (i := 0) rfl) (by omega)) ?_
      refine RunL.still rfl rfl rfl (Still.load rfl rfl Tryz.isAgg3 (fun w hs => own_at (hs.own (i := 0) rfl) (ints_get (getD_get' (by omega))))) ?_
      refine RunL.still rfl rfl rfl (Still.neq rfl rfl rfl) ?_
      refine RunL.nil ?_
      refine Ends.then ?_
      refine RunC.cond rfl (fun h31 => ?_) (fun h31 => ?_)
      · have h31 := of_decide_eq_true h31
        refine RunC.exit ?_
        refine Ends.then_exit ?_
        refine Ends.block_exit ?_
        refine Ends.then ?_
        refine RunC.region ?_
        refine RunL.still rfl rfl rfl (Still.add rfl rfl rfl (fits64 (by omega) (by omega))) ?_
        refine RunL.still rfl rfl rfl (Still.move rfl rfl) ?_
        refine RunL.nil ?_
        refine Ends.again (t + 1, out) ?_ ?_ (Fr.Sub.app ?_ ?_) ?_
        · exact ⟨by show t + 1 ≤ _; omega, oAll_keep hA h31⟩
        · show _ - (t + 1) < _ - t; omega
        · exact Fr.Sub.cons rfl (Fr.Sub.nil _)
        · exact Fr.Sub.cons rfl (Fr.Sub.cons rfl (Fr.Sub.cons rfl (Fr.Sub.nil _)))
        · exact HSub.pick 0 rfl (HSub.pick 0 rfl (HSub.nil _))
      · have h31 := of_decide_eq_false h31
        have hge := h31
        refine RunC.skip ?_
        refine Ends.then ?_
        refine RunC.seq ?_
        refine RunC.region ?_
        refine RunL.still rfl rfl rfl (Still.move rfl rfl) ?_
        refine RunL.still rfl rfl rfl (Still.move rfl rfl) ?_
        refine RunL.still rfl rfl rfl (Still.indexOwn rfl rfl rfl Tryz.underlying36 Tryz.sizeOf3 (fun _ hs => hs.own (i := 0) rfl) (by omega)) ?_
        refine RunL.does0 rfl rfl (Does.storeOwn1 (xs' := (ints (out.set t 1))) rfl rfl rfl rfl (i := 0) rfl Tryz.sizeOf3 rfl (by simp; omega) (ints_set _ _ _)) (fun _ _ => ?_)
        refine RunL.nil ?_
        refine Ends.then ?_
        refine RunC.seq ?_
        refine RunC.region ?_
        refine RunL.still rfl rfl rfl (Still.move rfl rfl) ?_
        refine RunL.grows rfl rfl rfl (Grows.slice1 rfl rfl Tryz.underlying36 Tryz.sizeOf3 rfl Tryz.zeroValue3 (by decide)) (fun b36 _ => ?_)
        refine RunL.conv (fun _ hs => Sym.obj_own (k := 1) (n := 1) hs rfl (by omega)) ?_
        refine RunL.still rfl rfl rfl (Still.assign rfl rfl) ?_
        refine RunL.nil ?_
        refine Ends.then ?_
        refine RunC.seq ?_
        refine RunC.region ?_
        refine RunL.still rfl rfl rfl (Still.assign rfl rfl) ?_
        refine RunL.nil ?_
        refine Ends.then ?_
        refine RunC.block ?_
        refine RunC.loop2 (γ := Value × BSt × Nat × Nat) (keep := [(1, _), (6, _), (23, _), (24, _)]) (hkeep := [_]) (fun (v, s, i, k) => OSt g s ∧ oBfs g k i s = oBfs g g.length 0 (out.set t 1, [t]) ∧ i + k = g.length) (fun (v, s, i, k) => k) (fun (v, s, i, k) => [(8, v), (9, iv i)]) (fun (v, s, i, k) => [HL.own 3 1 (.slice (some ⟨b21, 0, none⟩) g.length g.length) g.length (ints s.1), HL.own 3 1 v s.2.length (nints s.2)]) (.slice (some ⟨b36, 0, none⟩) 1 1, (out.set t 1, [t]), 0, g.length) ⟨OSt.start hOA (by omega) (Decidable.not_not.1 hge), rfl, by omega⟩ (Fr.Sub.cons rfl (Fr.Sub.cons rfl (Fr.Sub.nil _))) (Fr.Sub.cons rfl (Fr.Sub.cons rfl (Fr.Sub.cons rfl (Fr.Sub.cons rfl (Fr.Sub.nil _))))) (HSub.pick 1 rfl (HSub.pick 0 (by rfl) (HSub.pick 0 rfl (HSub.nil _)))) ?_
        rintro ⟨v, s, i, k⟩ ⟨hO, hM, hik⟩
        have hO : OSt g s := hO
        have hik : i + k = g.length := hik
        have hroom := hO.room
        have hsl := hO.len
        refine RunC.seq ?_
        refine RunC.seq ?_
        refine RunC.region ?_
        refine RunL.still rfl rfl rfl (Still.move rfl rfl) ?_
        refine RunL.still rfl rfl rfl (Still.move rfl rfl) ?_
        refine RunL.still rfl rfl rfl (Still.lenOwn rfl rfl Tryz.underlying36 (fun _ hs => hs.own (i := 1) rfl)) ?_
        refine RunL.still rfl rfl rfl (Still.lss rfl rfl rfl) ?_
        refine RunL.nil ?_
        refine Ends.then ?_
        refine RunC.cond rfl (fun h40 => ?_) (fun h40 => ?_)
        · have h40 := of_decide_eq_true h40
          obtain ⟨u, hu⟩ := get_of_lt (l := s.2) (i := i) (by omega)
          have huN : u < g.length := hO.mem u (List.mem_of_getElem? hu)
          have hzu := hO.set u (List.mem_of_getElem? hu)
          refine RunC.skip ?_
          refine Ends.then ?_
          refine RunC.seq ?_
          refine RunC.block ?_
          refine RunC.seq ?_
          refine RunC.drawY (.pure 0 (.pure 2 (.pure 3 (.pure 8 (.two 1 (.one 4 (.one 5 (.pure 6 (.one 7 .done)))) 4 (.two 1 (.one 5 (.pure 6 (.one 7 .done))) 5 (.one 1 (.pure 6 (.one 7 .done))))))))) (by kernel_rfl) (by kernel_rfl) ?_
          refine RunY.pure rfl rfl rfl rfl (fun _ => Still.fieldAddrL (off := 0) (off' := 0) rfl rfl Tryz.underlying24 rfl Tryz.sizeOf22 rfl) ?_
          refine RunY.pure rfl rfl rfl rfl (fun _ => Still.move rfl rfl) ?_
          refine RunY.pure rfl rfl rfl rfl (fun _ => Still.move rfl rfl) ?_
          refine RunY.pure rfl rfl rfl rfl (fun _ => Still.move rfl rfl) ?_
          refine RunY.two ?_ ?_
          ·
            refine RunY.still rfl rfl rfl rfl (Still.load rfl rfl Tryz.isAgg22 (fun _ hs => cell_nth (hs.at (i := 2) rfl) rfl)) ?_
            refine RunY.still rfl rfl rfl rfl (Still.indexOwn rfl rfl rfl Tryz.underlying36 Tryz.sizeOf3 (fun _ hs => hs.own (i := 1) rfl) (by omega)) ?_
            refine RunY.still rfl rfl rfl rfl (Still.load rfl rfl Tryz.isAgg3 (fun w hs => own_at (hs.own (i := 1) rfl) (nints_get hu))) ?_
            refine RunY.pure rfl rfl rfl rfl (fun _ => Still.indexSliceN rfl rfl rfl Tryz.underlying22 Tryz.sizeOf35 (hg.base (by omega)) (by omega)) ?_
            refine RunY.still rfl rfl rfl rfl (Still.loads rfl rfl Tryz.isAgg35 Tryz.sizeOf35 (vs := [iv (tAt g u).f0.tet, iv (tAt g u).f0.p.a0, iv (tAt g u).f0.p.a1, iv (tAt g u).f0.p.a2, iv (tAt g u).f0.p.a3, iv (tAt g u).f1.tet, iv (tAt g u).f1.p.a0, iv (tAt g u).f1.p.a1, iv (tAt g u).f1.p.a2, iv (tAt g u).f1.p.a3, iv (tAt g u).f2.tet, iv (tAt g u).f2.p.a0, iv (tAt g u).f2.p.a1, iv (tAt g u).f2.p.a2, iv (tAt g u).f2.p.a3, iv (tAt g u).f3.tet, iv (tAt g u).f3.p.a0, iv (tAt g u).f3.p.a1, iv (tAt g u).f3.p.a2, iv (tAt g u).f3.p.a3]) rfl (fun _ hs => (hg.sym hs).cell u _ (tAt_get huN))) ?_
            refine RunY.done ?_
            refine Ends.then ?_
            refine RunC.block ?_
            refine RunC.loop2 (γ := Value × Nat × BSt) (keep := [(1, _), (6, _), (9, _), (23, _), (24, _), (50, _)]) (hkeep := [_]) (fun (v, f, q) => f ≤ 4 ∧ oTo g u s f = some q) (fun (v, f, q) => 4 - f) (fun (v, f, q) => [(8, v), (51, iv f)]) (fun (v, f, q) => [HL.own 3 1 (.slice (some ⟨b21, 0, none⟩) g.length g.length) g.length (ints q.1), HL.own 3 1 v q.2.length (nints q.2)]) (v, 0, s) ⟨Nat.zero_le 4, rfl⟩ (Fr.Sub.cons rfl (Fr.Sub.cons rfl (Fr.Sub.nil _))) (Fr.Sub.cons rfl (Fr.Sub.cons rfl (Fr.Sub.cons rfl (Fr.Sub.cons rfl (Fr.Sub.cons rfl (Fr.Sub.cons rfl (Fr.Sub.nil _))))))) (HSub.pick 0 rfl (HSub.pick 0 rfl (HSub.pick 0 rfl (HSub.nil _)))) ?_
            rintro ⟨v, f, q⟩ ⟨hf, hT⟩
            have hf : f ≤ 4 := hf
            have hT : oTo g u s f = some q := hT
            obtain ⟨hO4, hz4⟩ := oTo_ok hok huN hO hzu f hf hT
            have hq4 := oTo_pre hu f hT
            have hi4 := (List.getElem?_eq_some_iff.1 hq4).1
            have hr4 := hO4.room
            have hl4 := hO4.len
            refine RunC.seq ?_
            refine RunC.region ?_
            refine RunL.still rfl rfl rfl (Still.lss rfl rfl rfl) ?_
            refine RunL.nil ?_
            refine Ends.then ?_
            refine RunC.seq ?_
            refine RunC.cond rfl (fun h52 => ?_) (fun h52 => ?_)
            · have h52 := of_decide_eq_true h52
              have hf4 : f < 4 := by omega
              refine RunC.skip ?_
              refine Ends.then ?_
              refine RunC.seq ?_
              refine RunC.block ?_
              refine RunC.seq ?_
              refine RunC.region ?_
              refine RunL.still rfl rfl rfl (Still.indexAgg rfl rfl rfl Tryz.underlying35 Tryz.sizeOf34 Tryz.isAgg34 ⟨by omega, by omega⟩ (ttV_fAt g u hf4)) ?_
              refine RunL.grows rfl rfl rfl (Grows.alloc rfl Tryz.zeroValue34) (fun b11 _ => ?_)
              refine RunL.does0 rfl rfl (Does.store rfl rfl rfl (i := 0) rfl Tryz.sizeOf34 rfl (rfl) rfl) (fun _ _ => ?_)
              refine RunL.nil ?_
              refine Ends.then ?_
              refine RunC.seq ?_
              refine RunC.seq ?_
              refine RunC.region ?_
              refine RunL.still rfl rfl rfl (Still.fieldAddrL (off := 0) (off' := 0) rfl rfl Tryz.underlying34 rfl Tryz.sizeOf3 rfl) ?_
              refine RunL.still rfl rfl rfl (Still.load rfl rfl Tryz.isAgg3 (fun _ hs => cell_nth (hs.at (i := 0) rfl) rfl)) ?_
              refine RunL.still rfl rfl rfl (Still.lss rfl rfl rfl) ?_
              refine RunL.nil ?_
              refine Ends.then ?_
              refine RunC.cond rfl (fun h56 => ?_) (fun h56 => ?_)
              · have h56 := of_decide_eq_true h56
                refine RunC.exit ?_
                refine Ends.then_exit ?_
                refine Ends.block_exit ?_
                refine Ends.then ?_
                refine RunC.region ?_
                refine RunL.still rfl rfl rfl (Still.add rfl rfl rfl (fits64 (by omega) (by omega))) ?_
                refine RunL.still rfl rfl rfl (Still.move rfl rfl) ?_
                refine RunL.nil ?_
                refine Ends.again (v, f + 1, q) ?_ ?_ (Fr.Sub.app ?_ ?_) ?_
                · exact ⟨by show f + 1 ≤ 4; omega, oTo_snoc hT (oFace_free h56)⟩
                · show 4 - (f + 1) < 4 - f; omega
                · exact Fr.Sub.cons rfl (Fr.Sub.cons rfl (Fr.Sub.nil _))
                · exact Fr.Sub.cons rfl (Fr.Sub.cons rfl (Fr.Sub.cons rfl (Fr.Sub.cons rfl (Fr.Sub.cons rfl (Fr.Sub.cons rfl (Fr.Sub.nil _))))))
                · exact HSub.pick 1 rfl (HSub.pick 1 rfl (HSub.pick 1 rfl (HSub.nil _)))
              · have h56 := of_decide_eq_false h56
                have hF := okG_glued hok huN hf4 (by omega)
                have hFl := hF.lo
                have hFh := hF.hi
                have hw1 := want_one hO4 (fAt g u f).p hz4
                have hs1 := sgnP_one (fAt g u f).p
                refine RunC.skip ?_
                refine Ends.then ?_
                refine RunC.seq ?_
                refine RunC.draw 12 (.still 0 (.still 1 (.still 4 (.still 5 (.still 6 (.still 7 (.still 8 (.still 9 (.still 10 (.one 2 (.still 3 (.still 11 .done)))))))))))) (by kernel_rfl) (by kernel_rfl) ?_
                refine RunG.still rfl rfl rfl rfl (Still.fieldAddrL (off := 0) (off' := 1) rfl rfl Tryz.underlying34 rfl Tryz.sizeOf32 rfl) ?_
                refine RunG.still rfl rfl rfl rfl (Still.loads rfl rfl Tryz.isAgg32 Tryz.sizeOf32 (vs := [_, _, _, _]) rfl (fun _ hs => cells_nth (hs.at (i := 0) rfl) ⟨rfl, ⟨rfl, ⟨rfl, ⟨rfl, trivial⟩⟩⟩⟩)) ?_
                refine RunG.still rfl rfl rfl rfl (Still.move rfl rfl) ?_
                refine RunG.still rfl rfl rfl rfl (Still.move rfl rfl) ?_
                refine RunG.still rfl rfl rfl rfl (Still.move rfl rfl) ?_
                refine RunG.still rfl rfl rfl rfl (Still.indexOwn rfl rfl rfl Tryz.underlying36 Tryz.sizeOf3 (fun _ hs => hs.own (i := 2) rfl) (by omega)) ?_
                refine RunG.still rfl rfl rfl rfl (Still.load rfl rfl Tryz.isAgg3 (fun w hs => own_at (hs.own (i := 2) rfl) (nints_get hq4))) ?_
                refine RunG.still rfl rfl rfl rfl (Still.indexOwn rfl rfl rfl Tryz.underlying36 Tryz.sizeOf3 (fun _ hs => hs.own (i := 1) rfl) (by omega)) ?_
                refine RunG.still rfl rfl rfl rfl (Still.load rfl rfl Tryz.isAgg3 (fun w hs => own_at (hs.own (i := 1) rfl) (ints_get (getD_get' (by omega))))) ?_
                refine RunG.grows rfl rfl rfl rfl (Grows.call (vs := #[_]) rfl rfl Tryz.call46 (fun w hs => gl_sign _ w)) (fun _ _ => ?_)
                refine RunG.still rfl rfl rfl rfl (Still.neg rfl rfl (fits64 (by omega) (by omega))) ?_
                refine RunG.still rfl rfl rfl rfl (Still.mul rfl rfl rfl (fits64 (by omega) (by omega))) ?_
                refine RunG.done ?_
                show RunL _ _ _ [_] _ _
                refine RunL.still rfl rfl rfl (Still.assign rfl rfl) ?_
                refine RunL.nil ?_
                refine Ends.then ?_
                refine RunC.seq ?_
                refine RunC.seq ?_
                refine RunC.region ?_
                refine RunL.still rfl rfl rfl (Still.move rfl rfl) ?_
                refine RunL.still rfl rfl rfl (Still.fieldAddrL (off := 0) (off' := 0) rfl rfl Tryz.underlying34 rfl Tryz.sizeOf3 rfl) ?_
                refine RunL.still rfl rfl rfl (Still.load rfl rfl Tryz.isAgg3 (fun _ hs => cell_nth (hs.at (i := 0) rfl) rfl)) ?_
                refine RunL.still rfl rfl rfl (Still.indexOwnI (m := (fAt g u f).tet.toNat) rfl rfl rfl Tryz.underlying36 Tryz.sizeOf3 (fun _ hs => hs.own (i := 1) rfl) (by omega) (by omega)) ?_
                refine RunL.still rfl rfl rfl (Still.load rfl rfl Tryz.isAgg3 (fun w hs => own_at (hs.own (i := 1) rfl) (ints_get (getD_get' (by omega))))) ?_
                refine RunL.still rfl rfl rfl (Still.eql rfl rfl rfl) ?_
                refine RunL.nil ?_
                refine Ends.then ?_
                refine RunC.cond rfl (fun h74 => ?_) (fun h74 => ?_)
                · have h74 := of_decide_eq_true h74
                  refine RunC.seq ?_
                  refine RunC.region ?_
                  refine RunL.still rfl rfl rfl (Still.move rfl rfl) ?_
                  refine RunL.still rfl rfl rfl (Still.fieldAddrL (off := 0) (off' := 0) rfl rfl Tryz.underlying34 rfl Tryz.sizeOf3 rfl) ?_
                  refine RunL.still rfl rfl rfl (Still.load rfl rfl Tryz.isAgg3 (fun _ hs => cell_nth (hs.at (i := 0) rfl) rfl)) ?_
                  refine RunL.still rfl rfl rfl (Still.move rfl rfl) ?_
                  refine RunL.still rfl rfl rfl (Still.indexOwnI (m := (fAt g u f).tet.toNat) rfl rfl rfl Tryz.underlying36 Tryz.sizeOf3 (fun _ hs => hs.own (i := 1) rfl) (by omega) (by omega)) ?_
                  refine RunL.does0 rfl rfl (Does.storeOwn1 (xs' := (ints (q.1.set (fAt g u f).tet.toNat (-sgnP (fAt g u f).p * q.1.getD u 0)))) rfl rfl rfl rfl (i := 1) rfl Tryz.sizeOf3 rfl (by simp; omega) (ints_set _ _ _)) (fun _ _ => ?_)
                  refine RunL.nil ?_
                  refine Ends.then ?_
                  refine RunC.region ?_
                  refine RunL.still rfl rfl rfl (Still.move rfl rfl) ?_
                  refine RunL.still rfl rfl rfl (Still.fieldAddrL (off := 0) (off' := 0) rfl rfl Tryz.underlying34 rfl Tryz.sizeOf3 rfl) ?_
                  refine RunL.still rfl rfl rfl (Still.load rfl rfl Tryz.isAgg3 (fun _ hs => cell_nth (hs.at (i := 0) rfl) rfl)) ?_
                  refine RunL.grows rfl rfl rfl (Grows.slice1 rfl rfl Tryz.underlying36 Tryz.sizeOf3 rfl Tryz.zeroValue3 (by decide)) (fun b83 _ => ?_)
                  refine RunL.does rfl rfl rfl (Does.appendTo (n' := (q.2.length + 1)) (xs' := (nints (q.2 ++ [(fAt g u f).tet.toNat]))) (news := [_]) rfl rfl rfl rfl (i := 3) rfl Tryz.underlying36 (by kernel_rfl : (_ : Option _) = some (some (.int .i64 0), 1, 8)) rfl rfl (fun _ hs => cells_nth (hs.at (i := 0) rfl) ⟨rfl, trivial⟩) rfl rfl (by omega) (by omega) (rfl) ((congrArg (fun z => _ ++ [iv z]) (by omega)).trans (nints_snoc _ _))) (fun v84 hv84 => ?_)
                  refine RunL.still rfl rfl rfl (Still.assign rfl rfl) ?_
                  refine RunL.nil ?_
                  refine Ends.then ?_
                  refine RunC.seq ?_
                  refine RunC.region ?_
                  refine RunL.still rfl rfl rfl (Still.move rfl rfl) ?_
                  refine RunL.still rfl rfl rfl (Still.fieldAddrL (off := 0) (off' := 0) rfl rfl Tryz.underlying34 rfl Tryz.sizeOf3 rfl) ?_
                  refine RunL.still rfl rfl rfl (Still.load rfl rfl Tryz.isAgg3 (fun _ hs => cell_nth (hs.at (i := 1) rfl) rfl)) ?_
                  refine RunL.still rfl rfl rfl (Still.indexOwnI (m := (fAt g u f).tet.toNat) rfl rfl rfl Tryz.underlying36 Tryz.sizeOf3 (fun _ hs => hs.own (i := 2) rfl) (by omega) (by omega)) ?_
                  refine RunL.still rfl rfl rfl (Still.load rfl rfl Tryz.isAgg3 (fun w hs => own_at (hs.own (i := 2) rfl) (ints_get (getD_get' (by first | omega | (simp; omega)))))) ?_
                  refine RunL.still rfl rfl rfl (Still.move rfl rfl) ?_
                  refine RunL.still rfl rfl rfl (Still.neq rfl rfl rfl) ?_
                  refine RunL.nil ?_
                  refine Ends.then ?_
                  refine RunC.cond rfl (fun h91 => ?_) (fun h91 => ?_)
                  · have h91 := of_decide_eq_true h91
                    refine RunC.seq ?_
                    refine RunC.region ?_
                    refine RunL.still rfl rfl rfl (Still.assign rfl rfl) ?_
                    refine RunL.still rfl rfl rfl (Still.assign rfl rfl) ?_
                    refine RunL.still rfl rfl rfl (Still.assign rfl rfl) ?_
                    refine RunL.nil ?_
                    refine Ends.then ?_
                    refine RunC.ret ?_
                    refine Ends.block_ret ?_
                    refine Ends.then_ret ?_
                    refine Ends.then_ret ?_
                    refine Ends.block_ret ?_
                    refine Ends.block_ret ?_
                    refine Ends.then_ret ?_
                    refine Ends.then_ret ?_
                    refine Ends.block_ret ?_
                    refine Ends.block_ret ?_
                    refine Ends.then_ret ?_
                    refine Ends.then_ret ?_
                    refine Ends.block_ret ?_
                    refine Ends.then_ret ?_
                    refine Ends.leave (.inl rfl) (fun _ _ ok => results3 Tryz.results15 (Holds.tmp rfl) (Holds.tmp rfl) (Holds.tmp rfl) ok) (fun w1 hs => ?_)
                    exact absurd (getD_set_self' (by omega)) h91
                  · have h91 := of_decide_eq_false h91
                    refine RunC.skip ?_
                    refine Ends.block ?_
                    refine Ends.then ?_
                    refine RunC.region ?_
                    refine RunL.still rfl rfl rfl (Still.add rfl rfl rfl (fits64 (by omega) (by omega))) ?_
                    refine RunL.still rfl rfl rfl (Still.move rfl rfl) ?_
                    refine RunL.nil ?_
                    refine Ends.again (v84, f + 1, (q.1.set (fAt g u f).tet.toNat (-sgnP (fAt g u f).p * q.1.getD u 0), q.2 ++ [(fAt g u f).tet.toNat])) ?_ ?_ (Fr.Sub.app ?_ ?_) ?_
                    · exact ⟨by show f + 1 ≤ 4; omega, oTo_snoc hT (oFace_new h56 h74)⟩
                    · show 4 - (f + 1) < 4 - f; omega
                    · exact Fr.Sub.cons rfl (Fr.Sub.cons rfl (Fr.Sub.nil _))
                    · exact Fr.Sub.cons rfl (Fr.Sub.cons rfl (Fr.Sub.cons rfl (Fr.Sub.cons rfl (Fr.Sub.cons rfl (Fr.Sub.cons rfl (Fr.Sub.nil _))))))
                    · exact HSub.pick 2 rfl (HSub.pick 2 (by simp only [List.length_append, List.length_singleton]; rfl) (HSub.pick 2 rfl (HSub.nil _)))
                · have h74 := of_decide_eq_false h74
                  refine RunC.skip ?_
                  refine Ends.then ?_
                  refine RunC.seq ?_
                  refine RunC.region ?_
                  refine RunL.still rfl rfl rfl (Still.move rfl rfl) ?_
                  refine RunL.still rfl rfl rfl (Still.fieldAddrL (off := 0) (off' := 0) rfl rfl Tryz.underlying34 rfl Tryz.sizeOf3 rfl) ?_
                  refine RunL.still rfl rfl rfl (Still.load rfl rfl Tryz.isAgg3 (fun _ hs => cell_nth (hs.at (i := 0) rfl) rfl)) ?_
                  refine RunL.still rfl rfl rfl (Still.indexOwnI (m := (fAt g u f).tet.toNat) rfl rfl rfl Tryz.underlying36 Tryz.sizeOf3 (fun _ hs => hs.own (i := 1) rfl) (by omega) (by omega)) ?_
                  refine RunL.still rfl rfl rfl (Still.load rfl rfl Tryz.isAgg3 (fun w hs => own_at (hs.own (i := 1) rfl) (ints_get (getD_get' (by first | omega | (simp; omega)))))) ?_
                  refine RunL.still rfl rfl rfl (Still.move rfl rfl) ?_
                  refine RunL.still rfl rfl rfl (Still.neq rfl rfl rfl) ?_
                  refine RunL.nil ?_
                  refine Ends.then ?_
                  refine RunC.cond rfl (fun h91 => ?_) (fun h91 => ?_)
                  · have h91 := of_decide_eq_true h91
                    refine RunC.seq ?_
                    refine RunC.region ?_
                    refine RunL.still rfl rfl rfl (Still.assign rfl rfl) ?_
                    refine RunL.still rfl rfl rfl (Still.assign rfl rfl) ?_
                    refine RunL.still rfl rfl rfl (Still.assign rfl rfl) ?_
                    refine RunL.nil ?_
                    refine Ends.then ?_
                    refine RunC.ret ?_
                    refine Ends.block_ret ?_
                    refine Ends.then_ret ?_
                    refine Ends.then_ret ?_
                    refine Ends.block_ret ?_
                    refine Ends.block_ret ?_
                    refine Ends.then_ret ?_
                    refine Ends.then_ret ?_
                    refine Ends.block_ret ?_
                    refine Ends.block_ret ?_
                    refine Ends.then_ret ?_
                    refine Ends.then_ret ?_
                    refine Ends.block_ret ?_
                    refine Ends.then_ret ?_
                    have hn4 := oTo_none4 hf4 hT (oFace_bad h56 h74 h91)
                    obtain ⟨k, rfl⟩ : ∃ m, k = m + 1 := ⟨k - 1, by have := (List.getElem?_eq_some_iff.1 hu).1; omega⟩
                    have hn := oriG_none (g := g) (t := t + 1) (by omega) (by rw [oAll_new hA hge, ← hM, oBfs_step hu, hn4]; rfl)
                    refine Ends.leave (.inl rfl) (fun _ _ ok => results3 Tryz.results15 (Holds.tmp rfl) (Holds.tmp rfl) (Holds.tmp rfl) ok) (fun w2 hs => ?_)
                    exact Ret.intro 0 trivial (by rw [oriV_none hn]) (by rw [oriH_none hn]; exact HSub.nil _) hs
                  · have h91 := of_decide_eq_false h91
                    refine RunC.skip ?_
                    refine Ends.block ?_
                    refine Ends.then ?_
                    refine RunC.region ?_
                    refine RunL.still rfl rfl rfl (Still.add rfl rfl rfl (fits64 (by omega) (by omega))) ?_
                    refine RunL.still rfl rfl rfl (Still.move rfl rfl) ?_
                    refine RunL.nil ?_
                    refine Ends.again (v, f + 1, q) ?_ ?_ (Fr.Sub.app ?_ ?_) ?_
                    · exact ⟨by show f + 1 ≤ 4; omega, oTo_snoc hT (oFace_same h56 h74 (Decidable.not_not.1 h91))⟩
                    · show 4 - (f + 1) < 4 - f; omega
                    · exact Fr.Sub.cons rfl (Fr.Sub.cons rfl (Fr.Sub.nil _))
                    · exact Fr.Sub.cons rfl (Fr.Sub.cons rfl (Fr.Sub.cons rfl (Fr.Sub.cons rfl (Fr.Sub.cons rfl (Fr.Sub.cons rfl (Fr.Sub.nil _))))))
                    · exact HSub.pick 1 rfl (HSub.pick 1 rfl (HSub.pick 1 rfl (HSub.nil _)))
            · have h52 := of_decide_eq_false h52
              obtain rfl : f = 4 := by omega
              refine RunC.exit ?_
              refine Ends.then_exit ?_
              refine Ends.then_exit ?_
              refine Ends.block_exit ?_
              refine Ends.block ?_
              refine Ends.then ?_
              refine RunC.region ?_
              refine RunL.still rfl rfl rfl (Still.move rfl rfl) ?_
              refine RunL.still rfl rfl rfl (Still.add rfl rfl rfl (fits64 (by omega) (by omega))) ?_
              refine RunL.still rfl rfl rfl (Still.assign rfl rfl) ?_
              refine RunL.nil ?_
              obtain ⟨k, rfl⟩ : ∃ m, k = m + 1 := ⟨k - 1, by have := (List.getElem?_eq_some_iff.1 hu).1; omega⟩
              refine Ends.again (v, q, i + 1, k) ?_ ?_ (Fr.Sub.app ?_ ?_) ?_
              · exact ⟨hO4, by rw [← hM, oBfs_step hu, hT]; rfl, by show i + 1 + k = _; omega⟩
              · exact Nat.lt_succ_self _
              · exact Fr.Sub.cons rfl (Fr.Sub.cons rfl (Fr.Sub.nil _))
              · exact Fr.Sub.cons rfl (Fr.Sub.cons rfl (Fr.Sub.cons rfl (Fr.Sub.cons rfl (Fr.Sub.nil _))))
              · exact HSub.pick 0 rfl (HSub.pick 0 rfl (HSub.pick 0 rfl (HSub.nil _)))
          ·
            refine RunY.still rfl rfl rfl rfl (Still.indexOwn rfl rfl rfl Tryz.underlying36 Tryz.sizeOf3 (fun _ hs => hs.own (i := 1) rfl) (by omega)) ?_
            refine RunY.two ?_ ?_
            ·
              refine RunY.still rfl rfl rfl rfl (Still.load rfl rfl Tryz.isAgg22 (fun _ hs => cell_nth (hs.at (i := 2) rfl) rfl)) ?_
              refine RunY.still rfl rfl rfl rfl (Still.load rfl rfl Tryz.isAgg3 (fun w hs => own_at (hs.own (i := 1) rfl) (nints_get hu))) ?_
              refine RunY.pure rfl rfl rfl rfl (fun _ => Still.indexSliceN rfl rfl rfl Tryz.underlying22 Tryz.sizeOf35 (hg.base (by omega)) (by omega)) ?_
              refine RunY.still rfl rfl rfl rfl (Still.loads rfl rfl Tryz.isAgg35 Tryz.sizeOf35 (vs := [iv (tAt g u).f0.tet, iv (tAt g u).f0.p.a0, iv (tAt g u).f0.p.a1, iv (tAt g u).f0.p.a2, iv (tAt g u).f0.p.a3, iv (tAt g u).f1.tet, iv (tAt g u).f1.p.a0, iv (tAt g u).f1.p.a1, iv (tAt g u).f1.p.a2, iv (tAt g u).f1.p.a3, iv (tAt g u).f2.tet, iv (tAt g u).f2.p.a0, iv (tAt g u).f2.p.a1, iv (tAt g u).f2.p.a2, iv (tAt g u).f2.p.a3, iv (tAt g u).f3.tet, iv (tAt g u).f3.p.a0, iv (tAt g u).f3.p.a1, iv (tAt g u).f3.p.a2, iv (tAt g u).f3.p.a3]) rfl (fun _ hs => (hg.sym hs).cell u _ (tAt_get huN))) ?_
              refine RunY.done ?_
              refine Ends.then ?_
              refine RunC.block ?_
              refine RunC.loop2 (γ := Value × Nat × BSt) (keep := [(1, _), (6, _), (9, _), (23, _), (24, _), (50, _)]) (hkeep := [_]) (fun (v, f, q) => f ≤ 4 ∧ oTo g u s f = some q) (fun (v, f, q) => 4 - f) (fun (v, f, q) => [(8, v), (51, iv f)]) (fun (v, f, q) => [HL.own 3 1 (.slice (some ⟨b21, 0, none⟩) g.length g.length) g.length (ints q.1), HL.own 3 1 v q.2.length (nints q.2)]) (v, 0, s) ⟨Nat.zero_le 4, rfl⟩ (Fr.Sub.cons rfl (Fr.Sub.cons rfl (Fr.Sub.nil _))) (Fr.Sub.cons rfl (Fr.Sub.cons rfl (Fr.Sub.cons rfl (Fr.Sub.cons rfl (Fr.Sub.cons rfl (Fr.Sub.cons rfl (Fr.Sub.nil _))))))) (HSub.pick 0 rfl (HSub.pick 0 rfl (HSub.pick 0 rfl (HSub.nil _)))) ?_
              rintro ⟨v, f, q⟩ ⟨hf, hT⟩
              have hf : f ≤ 4 := hf
              have hT : oTo g u s f = some q := hT
              obtain ⟨hO4, hz4⟩ := oTo_ok hok huN hO hzu f hf hT
              have hq4 := oTo_pre hu f hT
              have hi4 := (List.getElem?_eq_some_iff.1 hq4).1
              have hr4 := hO4.room
              have hl4 := hO4.len
              refine RunC.seq ?_
              refine RunC.region ?_
              refine RunL.still rfl rfl rfl (Still.lss rfl rfl rfl) ?_
              refine RunL.nil ?_
              refine Ends.then ?_
              refine RunC.seq ?_
              refine RunC.cond rfl (fun h52 => ?_) (fun h52 => ?_)
              · have h52 := of_decide_eq_true h52
                have hf4 : f < 4 := by omega
                refine RunC.skip ?_
                refine Ends.then ?_
                refine RunC.seq ?_
                refine RunC.block ?_
                refine RunC.seq ?_
                refine RunC.region ?_
                refine RunL.still rfl rfl rfl (Still.indexAgg rfl rfl rfl Tryz.underlying35 Tryz.sizeOf34 Tryz.isAgg34 ⟨by omega, by omega⟩ (ttV_fAt g u hf4)) ?_
                refine RunL.grows rfl rfl rfl (Grows.alloc rfl Tryz.zeroValue34) (fun b11 _ => ?_)
                refine RunL.does0 rfl rfl (Does.store rfl rfl rfl (i := 0) rfl Tryz.sizeOf34 rfl (rfl) rfl) (fun _ _ => ?_)
                refine RunL.nil ?_
                refine Ends.then ?_
                refine RunC.seq ?_
                refine RunC.seq ?_
                refine RunC.region ?_
                refine RunL.still rfl rfl rfl (Still.fieldAddrL (off := 0) (off' := 0) rfl rfl Tryz.underlying34 rfl Tryz.sizeOf3 rfl) ?_
                refine RunL.still rfl rfl rfl (Still.load rfl rfl Tryz.isAgg3 (fun _ hs => cell_nth (hs.at (i := 0) rfl) rfl)) ?_
                refine RunL.still rfl rfl rfl (Still.lss rfl rfl rfl) ?_
                refine RunL.nil ?_
                refine Ends.then ?_
                refine RunC.cond rfl (fun h56 => ?_) (fun h56 => ?_)
                · have h56 := of_decide_eq_true h56
                  refine RunC.exit ?_
                  refine Ends.then_exit ?_
                  refine Ends.block_exit ?_
                  refine Ends.then ?_
                  refine RunC.region ?_
                  refine RunL.still rfl rfl rfl (Still.add rfl rfl rfl (fits64 (by omega) (by omega))) ?_
                  refine RunL.still rfl rfl rfl (Still.move rfl rfl) ?_
                  refine RunL.nil ?_
                  refine Ends.again (v, f + 1, q) ?_ ?_ (Fr.Sub.app ?_ ?_) ?_
                  · exact ⟨by show f + 1 ≤ 4; omega, oTo_snoc hT (oFace_free h56)⟩
                  · show 4 - (f + 1) < 4 - f; omega
                  · exact Fr.Sub.cons rfl (Fr.Sub.cons rfl (Fr.Sub.nil _))
                  · exact Fr.Sub.cons rfl (Fr.Sub.cons rfl (Fr.Sub.cons rfl (Fr.Sub.cons rfl (Fr.Sub.cons rfl (Fr.Sub.cons rfl (Fr.Sub.nil _))))))
                  · exact HSub.pick 1 rfl (HSub.pick 1 rfl (HSub.pick 1 rfl (HSub.nil _)))
                · have h56 := of_decide_eq_false h56
                  have hF := okG_glued hok huN hf4 (by omega)
                  have hFl := hF.lo
                  have hFh := hF.hi
                  have hw1 := want_one hO4 (fAt g u f).p hz4
                  have hs1 := sgnP_one (fAt g u f).p
                  refine RunC.skip ?_
                  refine Ends.then ?_
                  refine RunC.seq ?_
                  refine RunC.draw 12 (.still 0 (.still 1 (.still 4 (.still 5 (.still 6 (.still 7 (.still 8 (.still 9 (.still 10 (.one 2 (.still 3 (.still 11 .done)))))))))))) (by kernel_rfl) (by kernel_rfl) ?_
                  refine RunG.still rfl rfl rfl rfl (Still.fieldAddrL (off := 0) (off' := 1) rfl rfl Tryz.underlying34 rfl Tryz.sizeOf32 rfl) ?_
                  refine RunG.still rfl rfl rfl rfl (Still.loads rfl rfl Tryz.isAgg32 Tryz.sizeOf32 (vs := [_, _, _, _]) rfl (fun _ hs => cells_nth (hs.at (i := 0) rfl) ⟨rfl, ⟨rfl, ⟨rfl, ⟨rfl, trivial⟩⟩⟩⟩)) ?_
                  refine RunG.still rfl rfl rfl rfl (Still.move rfl rfl) ?_
                  refine RunG.still rfl rfl rfl rfl (Still.move rfl rfl) ?_
                  refine RunG.still rfl rfl rfl rfl (Still.move rfl rfl) ?_
                  refine RunG.still rfl rfl rfl rfl (Still.indexOwn rfl rfl rfl Tryz.underlying36 Tryz.sizeOf3 (fun _ hs => hs.own (i := 2) rfl) (by omega)) ?_
                  refine RunG.still rfl rfl rfl rfl (Still.load rfl rfl Tryz.isAgg3 (fun w hs => own_at (hs.own (i := 2) rfl) (nints_get hq4))) ?_
                  refine RunG.still rfl rfl rfl rfl (Still.indexOwn rfl rfl rfl Tryz.underlying36 Tryz.sizeOf3 (fun _ hs => hs.own (i := 1) rfl) (by omega)) ?_
                  refine RunG.still rfl rfl rfl rfl (Still.load rfl rfl Tryz.isAgg3 (fun w hs => own_at (hs.own (i := 1) rfl) (ints_get (getD_get' (by omega))))) ?_
                  refine RunG.grows rfl rfl rfl rfl (Grows.call (vs := #[_]) rfl rfl Tryz.call46 (fun w hs => gl_sign _ w)) (fun _ _ => ?_)
                  refine RunG.still rfl rfl rfl rfl (Still.neg rfl rfl (fits64 (by omega) (by omega))) ?_
                  refine RunG.still rfl rfl rfl rfl (Still.mul rfl rfl rfl (fits64 (by omega) (by omega))) ?_
                  refine RunG.done ?_
                  show RunL _ _ _ [_] _ _
                  refine RunL.still rfl rfl rfl (Still.assign rfl rfl) ?_
                  refine RunL.nil ?_
                  refine Ends.then ?_
                  refine RunC.seq ?_
                  refine RunC.seq ?_
                  refine RunC.region ?_
                  refine RunL.still rfl rfl rfl (Still.move rfl rfl) ?_
                  refine RunL.still rfl rfl rfl (Still.fieldAddrL (off := 0) (off' := 0) rfl rfl Tryz.underlying34 rfl Tryz.sizeOf3 rfl) ?_
                  refine RunL.still rfl rfl rfl (Still.load rfl rfl Tryz.isAgg3 (fun _ hs => cell_nth (hs.at (i := 0) rfl) rfl)) ?_
                  refine RunL.still rfl rfl rfl (Still.indexOwnI (m := (fAt g u f).tet.toNat) rfl rfl rfl Tryz.underlying36 Tryz.sizeOf3 (fun _ hs => hs.own (i := 1) rfl) (by omega) (by omega)) ?_
                  refine RunL.still rfl rfl rfl (Still.load rfl rfl Tryz.isAgg3 (fun w hs => own_at (hs.own (i := 1) rfl) (ints_get (getD_get' (by omega))))) ?_
                  refine RunL.still rfl rfl rfl (Still.eql rfl rfl rfl) ?_
                  refine RunL.nil ?_
                  refine Ends.then ?_
                  refine RunC.cond rfl (fun h74 => ?_) (fun h74 => ?_)
                  · have h74 := of_decide_eq_true h74
                    refine RunC.seq ?_
                    refine RunC.region ?_
                    refine RunL.still rfl rfl rfl (Still.move rfl rfl) ?_
                    refine RunL.still rfl rfl rfl (Still.fieldAddrL (off := 0) (off' := 0) rfl rfl Tryz.underlying34 rfl Tryz.sizeOf3 rfl) ?_
                    refine RunL.still rfl rfl rfl (Still.load rfl rfl Tryz.isAgg3 (fun _ hs => cell_nth (hs.at (i := 0) rfl) rfl)) ?_
                    refine RunL.still rfl rfl rfl (Still.move rfl rfl) ?_
                    refine RunL.still rfl rfl rfl (Still.indexOwnI (m := (fAt g u f).tet.toNat) rfl rfl rfl Tryz.underlying36 Tryz.sizeOf3 (fun _ hs => hs.own (i := 1) rfl) (by omega) (by omega)) ?_
                    refine RunL.does0 rfl rfl (Does.storeOwn1 (xs' := (ints (q.1.set (fAt g u f).tet.toNat (-sgnP (fAt g u f).p * q.1.getD u 0)))) rfl rfl rfl rfl (i := 1) rfl Tryz.sizeOf3 rfl (by simp; omega) (ints_set _ _ _)) (fun _ _ => ?_)
                    refine RunL.nil ?_
                    refine Ends.then ?_
                    refine RunC.region ?_
                    refine RunL.still rfl rfl rfl (Still.move rfl rfl) ?_
                    refine RunL.still rfl rfl rfl (Still.fieldAddrL (off := 0) (off' := 0) rfl rfl Tryz.underlying34 rfl Tryz.sizeOf3 rfl) ?_
                    refine RunL.still rfl rfl rfl (Still.load rfl rfl Tryz.isAgg3 (fun _ hs => cell_nth (hs.at (i := 0) rfl) rfl)) ?_
                    refine RunL.grows rfl rfl rfl (Grows.slice1 rfl rfl Tryz.underlying36 Tryz.sizeOf3 rfl Tryz.zeroValue3 (by decide)) (fun b83 _ => ?_)
                    refine RunL.does rfl rfl rfl (Does.appendTo (n' := (q.2.length + 1)) (xs' := (nints (q.2 ++ [(fAt g u f).tet.toNat]))) (news := [_]) rfl rfl rfl rfl (i := 3) rfl Tryz.underlying36 (by kernel_rfl : (_ : Option _) = some (some (.int .i64 0), 1, 8)) rfl rfl (fun _ hs => cells_nth (hs.at (i := 0) rfl) ⟨rfl, trivial⟩) rfl rfl (by omega) (by omega) (rfl) ((congrArg (fun z => _ ++ [iv z]) (by omega)).trans (nints_snoc _ _))) (fun v84 hv84 => ?_)
                    refine RunL.still rfl rfl rfl (Still.assign rfl rfl) ?_
                    refine RunL.nil ?_
                    refine Ends.then ?_
                    refine RunC.seq ?_
                    refine RunC.region ?_
                    refine RunL.still rfl rfl rfl (Still.move rfl rfl) ?_
                    refine RunL.still rfl rfl rfl (Still.fieldAddrL (off := 0) (off' := 0) rfl rfl Tryz.underlying34 rfl Tryz.sizeOf3 rfl) ?_
                    refine RunL.still rfl rfl rfl (Still.load rfl rfl Tryz.isAgg3 (fun _ hs => cell_nth (hs.at (i := 1) rfl) rfl)) ?_
                    refine RunL.still rfl rfl rfl (Still.indexOwnI (m := (fAt g u f).tet.toNat) rfl rfl rfl Tryz.underlying36 Tryz.sizeOf3 (fun _ hs => hs.own (i := 2) rfl) (by omega) (by omega)) ?_
                    refine RunL.still rfl rfl rfl (Still.load rfl rfl Tryz.isAgg3 (fun w hs => own_at (hs.own (i := 2) rfl) (ints_get (getD_get' (by first | omega | (simp; omega)))))) ?_
                    refine RunL.still rfl rfl rfl (Still.move rfl rfl) ?_
                    refine RunL.still rfl rfl rfl (Still.neq rfl rfl rfl) ?_
                    refine RunL.nil ?_
                    refine Ends.then ?_
                    refine RunC.cond rfl (fun h91 => ?_) (fun h91 => ?_)
                    · have h91 := of_decide_eq_true h91
                      refine RunC.seq ?_
                      refine RunC.region ?_
                      refine RunL.still rfl rfl rfl (Still.assign rfl rfl) ?_
                      refine RunL.still rfl rfl rfl (Still.assign rfl rfl) ?_
                      refine RunL.still rfl rfl rfl (Still.assign rfl rfl) ?_
                      refine RunL.nil ?_
                      refine Ends.then ?_
                      refine RunC.ret ?_
                      refine Ends.block_ret ?_
                      refine Ends.then_ret ?_
                      refine Ends.then_ret ?_
                      refine Ends.block_ret ?_
                      refine Ends.block_ret ?_
                      refine Ends.then_ret ?_
                      refine Ends.then_ret ?_
                      refine Ends.block_ret ?_
                      refine Ends.block_ret ?_
                      refine Ends.then_ret ?_
                      refine Ends.then_ret ?_
                      refine Ends.block_ret ?_
                      refine Ends.then_ret ?_
                      refine Ends.leave (.inl rfl) (fun _ _ ok => results3 Tryz.results15 (Holds.tmp rfl) (Holds.tmp rfl) (Holds.tmp rfl) ok) (fun w3 hs => ?_)
                      exact absurd (getD_set_self' (by omega)) h91
                    · have h91 := of_decide_eq_false h91
                      refine RunC.skip ?_
                      refine Ends.block ?_
                      refine Ends.then ?_
                      refine RunC.region ?_
                      refine RunL.still rfl rfl rfl (Still.add rfl rfl rfl (fits64 (by omega) (by omega))) ?_
                      refine RunL.still rfl rfl rfl (Still.move rfl rfl) ?_
                      refine RunL.nil ?_
                      refine Ends.again (v84, f + 1, (q.1.set (fAt g u f).tet.toNat (-sgnP (fAt g u f).p * q.1.getD u 0), q.2 ++ [(fAt g u f).tet.toNat])) ?_ ?_ (Fr.Sub.app ?_ ?_) ?_
                      · exact ⟨by show f + 1 ≤ 4; omega, oTo_snoc hT (oFace_new h56 h74)⟩
                      · show 4 - (f + 1) < 4 - f; omega
                      · exact Fr.Sub.cons rfl (Fr.Sub.cons rfl (Fr.Sub.nil _))
                      · exact Fr.Sub.cons rfl (Fr.Sub.cons rfl (Fr.Sub.cons rfl (Fr.Sub.cons rfl (Fr.Sub.cons rfl (Fr.Sub.cons rfl (Fr.Sub.nil _))))))
                      · exact HSub.pick 2 rfl (HSub.pick 2 (by simp only [List.length_append, List.length_singleton]; rfl) (HSub.pick 2 rfl (HSub.nil _)))
                  · have h74 := of_decide_eq_false h74
                    refine RunC.skip ?_
                    refine Ends.then ?_
                    refine RunC.seq ?_
                    refine RunC.region ?_
                    refine RunL.still rfl rfl rfl (Still.move rfl rfl) ?_
                    refine RunL.still rfl rfl rfl (Still.fieldAddrL (off := 0) (off' := 0) rfl rfl Tryz.underlying34 rfl Tryz.sizeOf3 rfl) ?_
                    refine RunL.still rfl rfl rfl (Still.load rfl rfl Tryz.isAgg3 (fun _ hs => cell_nth (hs.at (i := 0) rfl) rfl)) ?_
                    refine RunL.still rfl rfl rfl (Still.indexOwnI (m := (fAt g u f).tet.toNat) rfl rfl rfl Tryz.underlying36 Tryz.sizeOf3 (fun _ hs => hs.own (i := 1) rfl) (by omega) (by omega)) ?_
                    refine RunL.still rfl rfl rfl (Still.load rfl rfl Tryz.isAgg3 (fun w hs => own_at (hs.own (i := 1) rfl) (ints_get (getD_get' (by first | omega | (simp; omega)))))) ?_
                    refine RunL.still rfl rfl rfl (Still.move rfl rfl) ?_
                    refine RunL.still rfl rfl rfl (Still.neq rfl rfl rfl) ?_
                    refine RunL.nil ?_
                    refine Ends.then ?_
                    refine RunC.cond rfl (fun h91 => ?_) (fun h91 => ?_)
                    · have h91 := of_decide_eq_true h91
                      refine RunC.seq ?_
                      refine RunC.region ?_
                      refine RunL.still rfl rfl rfl (Still.assign rfl rfl) ?_
                      refine RunL.still rfl rfl rfl (Still.assign rfl rfl) ?_
                      refine RunL.still rfl rfl rfl (Still.assign rfl rfl) ?_
                      refine RunL.nil ?_
                      refine Ends.then ?_
                      refine RunC.ret ?_
                      refine Ends.block_ret ?_
                      refine Ends.then_ret ?_
                      refine Ends.then_ret ?_
                      refine Ends.block_ret ?_
                      refine Ends.block_ret ?_
                      refine Ends.then_ret ?_
                      refine Ends.then_ret ?_
                      refine Ends.block_ret ?_
                      refine Ends.block_ret ?_
                      refine Ends.then_ret ?_
                      refine Ends.then_ret ?_
                      refine Ends.block_ret ?_
                      refine Ends.then_ret ?_
                      have hn4 := oTo_none4 hf4 hT (oFace_bad h56 h74 h91)
                      obtain ⟨k, rfl⟩ : ∃ m, k = m + 1 := ⟨k - 1, by have := (List.getElem?_eq_some_iff.1 hu).1; omega⟩
                      have hn := oriG_none (g := g) (t := t + 1) (by omega) (by rw [oAll_new hA hge, ← hM, oBfs_step hu, hn4]; rfl)
                      refine Ends.leave (.inl rfl) (fun _ _ ok => results3 Tryz.results15 (Holds.tmp rfl) (Holds.tmp rfl) (Holds.tmp rfl) ok) (fun w4 hs => ?_)
                      exact Ret.intro 0 trivial (by rw [oriV_none hn]) (by rw [oriH_none hn]; exact HSub.nil _) hs
                    · have h91 := of_decide_eq_false h91
                      refine RunC.skip ?_
                      refine Ends.block ?_
                      refine Ends.then ?_
                      refine RunC.region ?_
                      refine RunL.still rfl rfl rfl (Still.add rfl rfl rfl (fits64 (by omega) (by omega))) ?_
                      refine RunL.still rfl rfl rfl (Still.move rfl rfl) ?_
                      refine RunL.nil ?_
                      refine Ends.again (v, f + 1, q) ?_ ?_ (Fr.Sub.app ?_ ?_) ?_
                      · exact ⟨by show f + 1 ≤ 4; omega, oTo_snoc hT (oFace_same h56 h74 (Decidable.not_not.1 h91))⟩
                      · show 4 - (f + 1) < 4 - f; omega
                      · exact Fr.Sub.cons rfl (Fr.Sub.cons rfl (Fr.Sub.nil _))
                      · exact Fr.Sub.cons rfl (Fr.Sub.cons rfl (Fr.Sub.cons rfl (Fr.Sub.cons rfl (Fr.Sub.cons rfl (Fr.Sub.cons rfl (Fr.Sub.nil _))))))
                      · exact HSub.pick 1 rfl (HSub.pick 1 rfl (HSub.pick 1 rfl (HSub.nil _)))
              · have h52 := of_decide_eq_false h52
                obtain rfl : f = 4 := by omega
                refine RunC.exit ?_
                refine Ends.then_exit ?_
                refine Ends.then_exit ?_
                refine Ends.block_exit ?_
                refine Ends.block ?_
                refine Ends.then ?_
                refine RunC.region ?_
                refine RunL.still rfl rfl rfl (Still.move rfl rfl) ?_
                refine RunL.still rfl rfl rfl (Still.add rfl rfl rfl (fits64 (by omega) (by omega))) ?_
                refine RunL.still rfl rfl rfl (Still.assign rfl rfl) ?_
                refine RunL.nil ?_
                obtain ⟨k, rfl⟩ : ∃ m, k = m + 1 := ⟨k - 1, by have := (List.getElem?_eq_some_iff.1 hu).1; omega⟩
                refine Ends.again (v, q, i + 1, k) ?_ ?_ (Fr.Sub.app ?_ ?_) ?_
                · exact ⟨hO4, by rw [← hM, oBfs_step hu, hT]; rfl, by show i + 1 + k = _; omega⟩
                · exact Nat.lt_succ_self _
                · exact Fr.Sub.cons rfl (Fr.Sub.cons rfl (Fr.Sub.nil _))
                · exact Fr.Sub.cons rfl (Fr.Sub.cons rfl (Fr.Sub.cons rfl (Fr.Sub.cons rfl (Fr.Sub.nil _))))
                · exact HSub.pick 0 rfl (HSub.pick 0 rfl (HSub.pick 0 rfl (HSub.nil _)))
            ·
              refine RunY.still rfl rfl rfl rfl (Still.load rfl rfl Tryz.isAgg3 (fun w hs => own_at (hs.own (i := 1) rfl) (nints_get hu))) ?_
              refine RunY.still rfl rfl rfl rfl (Still.load rfl rfl Tryz.isAgg22 (fun _ hs => cell_nth (hs.at (i := 2) rfl) rfl)) ?_
              refine RunY.pure rfl rfl rfl rfl (fun _ => Still.indexSliceN rfl rfl rfl Tryz.underlying22 Tryz.sizeOf35 (hg.base (by omega)) (by omega)) ?_
              refine RunY.still rfl rfl rfl rfl (Still.loads rfl rfl Tryz.isAgg35 Tryz.sizeOf35 (vs := [iv (tAt g u).f0.tet, iv (tAt g u).f0.p.a0, iv (tAt g u).f0.p.a1, iv (tAt g u).f0.p.a2, iv (tAt g u).f0.p.a3, iv (tAt g u).f1.tet, iv (tAt g u).f1.p.a0, iv (tAt g u).f1.p.a1, iv (tAt g u).f1.p.a2, iv (tAt g u).f1.p.a3, iv (tAt g u).f2.tet, iv (tAt g u).f2.p.a0, iv (tAt g u).f2.p.a1, iv (tAt g u).f2.p.a2, iv (tAt g u).f2.p.a3, iv (tAt g u).f3.tet, iv (tAt g u).f3.p.a0, iv (tAt g u).f3.p.a1, iv (tAt g u).f3.p.a2, iv (tAt g u).f3.p.a3]) rfl (fun _ hs => (hg.sym hs).cell u _ (tAt_get huN))) ?_
              refine RunY.done ?_
              refine Ends.then ?_
              refine RunC.block ?_
              refine RunC.loop2 (γ := Value × Nat × BSt) (keep := [(1, _), (6, _), (9, _), (23, _), (24, _), (50, _)]) (hkeep := [_]) (fun (v, f, q) => f ≤ 4 ∧ oTo g u s f = some q) (fun (v, f, q) => 4 - f) (fun (v, f, q) => [(8, v), (51, iv f)]) (fun (v, f, q) => [HL.own 3 1 (.slice (some ⟨b21, 0, none⟩) g.length g.length) g.length (ints q.1), HL.own 3 1 v q.2.length (nints q.2)]) (v, 0, s) ⟨Nat.zero_le 4, rfl⟩ (Fr.Sub.cons rfl (Fr.Sub.cons rfl (Fr.Sub.nil _))) (Fr.Sub.cons rfl (Fr.Sub.cons rfl (Fr.Sub.cons rfl (Fr.Sub.cons rfl (Fr.Sub.cons rfl (Fr.Sub.cons rfl (Fr.Sub.nil _))))))) (HSub.pick 0 rfl (HSub.pick 0 rfl (HSub.pick 0 rfl (HSub.nil _)))) ?_
              rintro ⟨v, f, q⟩ ⟨hf, hT⟩
              have hf : f ≤ 4 := hf
              have hT : oTo g u s f = some q := hT
              obtain ⟨hO4, hz4⟩ := oTo_ok hok huN hO hzu f hf hT
              have hq4 := oTo_pre hu f hT
              have hi4 := (List.getElem?_eq_some_iff.1 hq4).1
              have hr4 := hO4.room
              have hl4 := hO4.len
              refine RunC.seq ?_
              refine RunC.region ?_
              refine RunL.still rfl rfl rfl (Still.lss rfl rfl rfl) ?_
              refine RunL.nil ?_
              refine Ends.then ?_
              refine RunC.seq ?_
              refine RunC.cond rfl (fun h52 => ?_) (fun h52 => ?_)
              · have h52 := of_decide_eq_true h52
                have hf4 : f < 4 := by omega
                refine RunC.skip ?_
                refine Ends.then ?_
                refine RunC.seq ?_
                refine RunC.block ?_
                refine RunC.seq ?_
                refine RunC.region ?_
                refine RunL.still rfl rfl rfl (Still.indexAgg rfl rfl rfl Tryz.underlying35 Tryz.sizeOf34 Tryz.isAgg34 ⟨by omega, by omega⟩ (ttV_fAt g u hf4)) ?_
                refine RunL.grows rfl rfl rfl (Grows.alloc rfl Tryz.zeroValue34) (fun b11 _ => ?_)
                refine RunL.does0 rfl rfl (Does.store rfl rfl rfl (i := 0) rfl Tryz.sizeOf34 rfl (rfl) rfl) (fun _ _ => ?_)
                refine RunL.nil ?_
                refine Ends.then ?_
                refine RunC.seq ?_
                refine RunC.seq ?_
                refine RunC.region ?_
                refine RunL.still rfl rfl rfl (Still.fieldAddrL (off := 0) (off' := 0) rfl rfl Tryz.underlying34 rfl Tryz.sizeOf3 rfl) ?_
                refine RunL.still rfl rfl rfl (Still.load rfl rfl Tryz.isAgg3 (fun _ hs => cell_nth (hs.at (i := 0) rfl) rfl)) ?_
                refine RunL.still rfl rfl rfl (Still.lss rfl rfl rfl) ?_
                refine RunL.nil ?_
                refine Ends.then ?_
                refine RunC.cond rfl (fun h56 => ?_) (fun h56 => ?_)
                · have h56 := of_decide_eq_true h56
                  refine RunC.exit ?_
                  refine Ends.then_exit ?_
                  refine Ends.block_exit ?_
                  refine Ends.then ?_
                  refine RunC.region ?_
                  refine RunL.still rfl rfl rfl (Still.add rfl rfl rfl (fits64 (by omega) (by omega))) ?_
                  refine RunL.still rfl rfl rfl (Still.move rfl rfl) ?_
                  refine RunL.nil ?_
                  refine Ends.again (v, f + 1, q) ?_ ?_ (Fr.Sub.app ?_ ?_) ?_
                  · exact ⟨by show f + 1 ≤ 4; omega, oTo_snoc hT (oFace_free h56)⟩
                  · show 4 - (f + 1) < 4 - f; omega
                  · exact Fr.Sub.cons rfl (Fr.Sub.cons rfl (Fr.Sub.nil _))
                  · exact Fr.Sub.cons rfl (Fr.Sub.cons rfl (Fr.Sub.cons rfl (Fr.Sub.cons rfl (Fr.Sub.cons rfl (Fr.Sub.cons rfl (Fr.Sub.nil _))))))
                  · exact HSub.pick 1 rfl (HSub.pick 1 rfl (HSub.pick 1 rfl (HSub.nil _)))
                · have h56 := of_decide_eq_false h56
                  have hF := okG_glued hok huN hf4 (by omega)
                  have hFl := hF.lo
                  have hFh := hF.hi
                  have hw1 := want_one hO4 (fAt g u f).p hz4
                  have hs1 := sgnP_one (fAt g u f).p
                  refine RunC.skip ?_
                  refine Ends.then ?_
                  refine RunC.seq ?_
                  refine RunC.draw 12 (.still 0 (.still 1 (.still 4 (.still 5 (.still 6 (.still 7 (.still 8 (.still 9 (.still 10 (.one 2 (.still 3 (.still 11 .done)))))))))))) (by kernel_rfl) (by kernel_rfl) ?_
                  refine RunG.still rfl rfl rfl rfl (Still.fieldAddrL (off := 0) (off' := 1) rfl rfl Tryz.underlying34 rfl Tryz.sizeOf32 rfl) ?_
                  refine RunG.still rfl rfl rfl rfl (Still.loads rfl rfl Tryz.isAgg32 Tryz.sizeOf32 (vs := [_, _, _, _]) rfl (fun _ hs => cells_nth (hs.at (i := 0) rfl) ⟨rfl, ⟨rfl, ⟨rfl, ⟨rfl, trivial⟩⟩⟩⟩)) ?_
                  refine RunG.still rfl rfl rfl rfl (Still.move rfl rfl) ?_
                  refine RunG.still rfl rfl rfl rfl (Still.move rfl rfl) ?_
                  refine RunG.still rfl rfl rfl rfl (Still.move rfl rfl) ?_
                  refine RunG.still rfl rfl rfl rfl (Still.indexOwn rfl rfl rfl Tryz.underlying36 Tryz.sizeOf3 (fun _ hs => hs.own (i := 2) rfl) (by omega)) ?_
                  refine RunG.still rfl rfl rfl rfl (Still.load rfl rfl Tryz.isAgg3 (fun w hs => own_at (hs.own (i := 2) rfl) (nints_get hq4))) ?_
                  refine RunG.still rfl rfl rfl rfl (Still.indexOwn rfl rfl rfl Tryz.underlying36 Tryz.sizeOf3 (fun _ hs => hs.own (i := 1) rfl) (by omega)) ?_
                  refine RunG.still rfl rfl rfl rfl (Still.load rfl rfl Tryz.isAgg3 (fun w hs => own_at (hs.own (i := 1) rfl) (ints_get (getD_get' (by omega))))) ?_
                  refine RunG.grows rfl rfl rfl rfl (Grows.call (vs := #[_]) rfl rfl Tryz.call46 (fun w hs => gl_sign _ w)) (fun _ _ => ?_)
                  refine RunG.still rfl rfl rfl rfl (Still.neg rfl rfl (fits64 (by omega) (by omega))) ?_
                  refine RunG.still rfl rfl rfl rfl (Still.mul rfl rfl rfl (fits64 (by omega) (by omega))) ?_
                  refine RunG.done ?_
                  show RunL _ _ _ [_] _ _
                  refine RunL.still rfl rfl rfl (Still.assign rfl rfl) ?_
                  refine RunL.nil ?_
                  refine Ends.then ?_
                  refine RunC.seq ?_
                  refine RunC.seq ?_
                  refine RunC.region ?_
                  refine RunL.still rfl rfl rfl (Still.move rfl rfl) ?_
                  refine RunL.still rfl rfl rfl (Still.fieldAddrL (off := 0) (off' := 0) rfl rfl Tryz.underlying34 rfl Tryz.sizeOf3 rfl) ?_
                  refine RunL.still rfl rfl rfl (Still.load rfl rfl Tryz.isAgg3 (fun _ hs => cell_nth (hs.at (i := 0) rfl) rfl)) ?_
                  refine RunL.still rfl rfl rfl (Still.indexOwnI (m := (fAt g u f).tet.toNat) rfl rfl rfl Tryz.underlying36 Tryz.sizeOf3 (fun _ hs => hs.own (i := 1) rfl) (by omega) (by omega)) ?_
                  refine RunL.still rfl rfl rfl (Still.load rfl rfl Tryz.isAgg3 (fun w hs => own_at (hs.own (i := 1) rfl) (ints_get (getD_get' (by omega))))) ?_
                  refine RunL.still rfl rfl rfl (Still.eql rfl rfl rfl) ?_
                  refine RunL.nil ?_
                  refine Ends.then ?_
                  refine RunC.cond rfl (fun h74 => ?_) (fun h74 => ?_)
                  · have h74 := of_decide_eq_true h74
                    refine RunC.seq ?_
                    refine RunC.region ?_
                    refine RunL.still rfl rfl rfl (Still.move rfl rfl) ?_
                    refine RunL.still rfl rfl rfl (Still.fieldAddrL (off := 0) (off' := 0) rfl rfl Tryz.underlying34 rfl Tryz.sizeOf3 rfl) ?_
                    refine RunL.still rfl rfl rfl (Still.load rfl rfl Tryz.isAgg3 (fun _ hs => cell_nth (hs.at (i := 0) rfl) rfl)) ?_
                    refine RunL.still rfl rfl rfl (Still.move rfl rfl) ?_
                    refine RunL.still rfl rfl rfl (Still.indexOwnI (m := (fAt g u f).tet.toNat) rfl rfl rfl Tryz.underlying36 Tryz.sizeOf3 (fun _ hs => hs.own (i := 1) rfl) (by omega) (by omega)) ?_
                    refine RunL.does0 rfl rfl (Does.storeOwn1 (xs' := (ints (q.1.set (fAt g u f).tet.toNat (-sgnP (fAt g u f).p * q.1.getD u 0)))) rfl rfl rfl rfl (i := 1) rfl Tryz.sizeOf3 rfl (by simp; omega) (ints_set _ _ _)) (fun _ _ => ?_)
                    refine RunL.nil ?_
                    refine Ends.then ?_
                    refine RunC.region ?_
                    refine RunL.still rfl rfl rfl (Still.move rfl rfl) ?_
                    refine RunL.still rfl rfl rfl (Still.fieldAddrL (off := 0) (off' := 0) rfl rfl Tryz.underlying34 rfl Tryz.sizeOf3 rfl) ?_
                    refine RunL.still rfl rfl rfl (Still.load rfl rfl Tryz.isAgg3 (fun _ hs => cell_nth (hs.at (i := 0) rfl) rfl)) ?_
                    refine RunL.grows rfl rfl rfl (Grows.slice1 rfl rfl Tryz.underlying36 Tryz.sizeOf3 rfl Tryz.zeroValue3 (by decide)) (fun b83 _ => ?_)
                    refine RunL.does rfl rfl rfl (Does.appendTo (n' := (q.2.length + 1)) (xs' := (nints (q.2 ++ [(fAt g u f).tet.toNat]))) (news := [_]) rfl rfl rfl rfl (i := 3) rfl Tryz.underlying36 (by kernel_rfl : (_ : Option _) = some (some (.int .i64 0), 1, 8)) rfl rfl (fun _ hs => cells_nth (hs.at (i := 0) rfl) ⟨rfl, trivial⟩) rfl rfl (by omega) (by omega) (rfl) ((congrArg (fun z => _ ++ [iv z]) (by omega)).trans (nints_snoc _ _))) (fun v84 hv84 => ?_)
                    refine RunL.still rfl rfl rfl (Still.assign rfl rfl) ?_
                    refine RunL.nil ?_
                    refine Ends.then ?_
                    refine RunC.seq ?_
                    refine RunC.region ?_
                    refine RunL.still rfl rfl rfl (Still.move rfl rfl) ?_
                    refine RunL.still rfl rfl rfl (Still.fieldAddrL (off := 0) (off' := 0) rfl rfl Tryz.underlying34 rfl Tryz.sizeOf3 rfl) ?_
                    refine RunL.still rfl rfl rfl (Still.load rfl rfl Tryz.isAgg3 (fun _ hs => cell_nth (hs.at (i := 1) rfl) rfl)) ?_
                    refine RunL.still rfl rfl rfl (Still.indexOwnI (m := (fAt g u f).tet.toNat) rfl rfl rfl Tryz.underlying36 Tryz.sizeOf3 (fun _ hs => hs.own (i := 2) rfl) (by omega) (by omega)) ?_
                    refine RunL.still rfl rfl rfl (Still.load rfl rfl Tryz.isAgg3 (fun w hs => own_at (hs.own (i := 2) rfl) (ints_get (getD_get' (by first | omega | (simp; omega)))))) ?_
                    refine RunL.still rfl rfl rfl (Still.move rfl rfl) ?_
                    refine RunL.still rfl rfl rfl (Still.neq rfl rfl rfl) ?_
                    refine RunL.nil ?_
                    refine Ends.then ?_
                    refine RunC.cond rfl (fun h91 => ?_) (fun h91 => ?_)
                    · have h91 := of_decide_eq_true h91
                      refine RunC.seq ?_
                      refine RunC.region ?_
                      refine RunL.still rfl rfl rfl (Still.assign rfl rfl) ?_
                      refine RunL.still rfl rfl rfl (Still.assign rfl rfl) ?_
                      refine RunL.still rfl rfl rfl (Still.assign rfl rfl) ?_
                      refine RunL.nil ?_
                      refine Ends.then ?_
                      refine RunC.ret ?_
                      refine Ends.block_ret ?_
                      refine Ends.then_ret ?_
                      refine Ends.then_ret ?_
                      refine Ends.block_ret ?_
                      refine Ends.block_ret ?_
                      refine Ends.then_ret ?_
                      refine Ends.then_ret ?_
                      refine Ends.block_ret ?_
                      refine Ends.block_ret ?_
                      refine Ends.then_ret ?_
                      refine Ends.then_ret ?_
                      refine Ends.block_ret ?_
                      refine Ends.then_ret ?_
                      refine Ends.leave (.inl rfl) (fun _ _ ok => results3 Tryz.results15 (Holds.tmp rfl) (Holds.tmp rfl) (Holds.tmp rfl) ok) (fun w5 hs => ?_)
                      exact absurd (getD_set_self' (by omega)) h91
                    · have h91 := of_decide_eq_false h91
                      refine RunC.skip ?_
                      refine Ends.block ?_
                      refine Ends.then ?_
                      refine RunC.region ?_
                      refine RunL.still rfl rfl rfl (Still.add rfl rfl rfl (fits64 (by omega) (by omega))) ?_
                      refine RunL.still rfl rfl rfl (Still.move rfl rfl) ?_
                      refine RunL.nil ?_
                      refine Ends.again (v84, f + 1, (q.1.set (fAt g u f).tet.toNat (-sgnP (fAt g u f).p * q.1.getD u 0), q.2 ++ [(fAt g u f).tet.toNat])) ?_ ?_ (Fr.Sub.app ?_ ?_) ?_
                      · exact ⟨by show f + 1 ≤ 4; omega, oTo_snoc hT (oFace_new h56 h74)⟩
                      · show 4 - (f + 1) < 4 - f; omega
                      · exact Fr.Sub.cons rfl (Fr.Sub.cons rfl (Fr.Sub.nil _))
                      · exact Fr.Sub.cons rfl (Fr.Sub.cons rfl (Fr.Sub.cons rfl (Fr.Sub.cons rfl (Fr.Sub.cons rfl (Fr.Sub.cons rfl (Fr.Sub.nil _))))))
                      · exact HSub.pick 2 rfl (HSub.pick 2 (by simp only [List.length_append, List.length_singleton]; rfl) (HSub.pick 2 rfl (HSub.nil _)))
                  · have h74 := of_decide_eq_false h74
                    refine RunC.skip ?_
                    refine Ends.then ?_
                    refine RunC.seq ?_
                    refine RunC.region ?_
                    refine RunL.still rfl rfl rfl (Still.move rfl rfl) ?_
                    refine RunL.still rfl rfl rfl (Still.fieldAddrL (off := 0) (off' := 0) rfl rfl Tryz.underlying34 rfl Tryz.sizeOf3 rfl) ?_
                    refine RunL.still rfl rfl rfl (Still.load rfl rfl Tryz.isAgg3 (fun _ hs => cell_nth (hs.at (i := 0) rfl) rfl)) ?_
                    refine RunL.still rfl rfl rfl (Still.indexOwnI (m := (fAt g u f).tet.toNat) rfl rfl rfl Tryz.underlying36 Tryz.sizeOf3 (fun _ hs => hs.own (i := 1) rfl) (by omega) (by omega)) ?_
                    refine RunL.still rfl rfl rfl (Still.load rfl rfl Tryz.isAgg3 (fun w hs => own_at (hs.own (i := 1) rfl) (ints_get (getD_get' (by first | omega | (simp; omega)))))) ?_
                    refine RunL.still rfl rfl rfl (Still.move rfl rfl) ?_
                    refine RunL.still rfl rfl rfl (Still.neq rfl rfl rfl) ?_
                    refine RunL.nil ?_
                    refine Ends.then ?_
                    refine RunC.cond rfl (fun h91 => ?_) (fun h91 => ?_)
                    · have h91 := of_decide_eq_true h91
                      refine RunC.seq ?_
                      refine RunC.region ?_
                      refine RunL.still rfl rfl rfl (Still.assign rfl rfl) ?_
                      refine RunL.still rfl rfl rfl (Still.assign rfl rfl) ?_
                      refine RunL.still rfl rfl rfl (Still.assign rfl rfl) ?_
                      refine RunL.nil ?_
                      refine Ends.then ?_
                      refine RunC.ret ?_
                      refine Ends.block_ret ?_
                      refine Ends.then_ret ?_
                      refine Ends.then_ret ?_
                      refine Ends.block_ret ?_
                      refine Ends.block_ret ?_
                      refine Ends.then_ret ?_
                      refine Ends.then_ret ?_
                      refine Ends.block_ret ?_
                      refine Ends.block_ret ?_
                      refine Ends.then_ret ?_
                      refine Ends.then_ret ?_
                      refine Ends.block_ret ?_
                      refine Ends.then_ret ?_
                      have hn4 := oTo_none4 hf4 hT (oFace_bad h56 h74 h91)
                      obtain ⟨k, rfl⟩ : ∃ m, k = m + 1 := ⟨k - 1, by have := (List.getElem?_eq_some_iff.1 hu).1; omega⟩
                      have hn := oriG_none (g := g) (t := t + 1) (by omega) (by rw [oAll_new hA hge, ← hM, oBfs_step hu, hn4]; rfl)
                      refine Ends.leave (.inl rfl) (fun _ _ ok => results3 Tryz.results15 (Holds.tmp rfl) (Holds.tmp rfl) (Holds.tmp rfl) ok) (fun w6 hs => ?_)
                      exact Ret.intro 0 trivial (by rw [oriV_none hn]) (by rw [oriH_none hn]; exact HSub.nil _) hs
                    · have h91 := of_decide_eq_false h91
                      refine RunC.skip ?_
                      refine Ends.block ?_
                      refine Ends.then ?_
                      refine RunC.region ?_
                      refine RunL.still rfl rfl rfl (Still.add rfl rfl rfl (fits64 (by omega) (by omega))) ?_
                      refine RunL.still rfl rfl rfl (Still.move rfl rfl) ?_
                      refine RunL.nil ?_
                      refine Ends.again (v, f + 1, q) ?_ ?_ (Fr.Sub.app ?_ ?_) ?_
                      · exact ⟨by show f + 1 ≤ 4; omega, oTo_snoc hT (oFace_same h56 h74 (Decidable.not_not.1 h91))⟩
                      · show 4 - (f + 1) < 4 - f; omega
                      · exact Fr.Sub.cons rfl (Fr.Sub.cons rfl (Fr.Sub.nil _))
                      · exact Fr.Sub.cons rfl (Fr.Sub.cons rfl (Fr.Sub.cons rfl (Fr.Sub.cons rfl (Fr.Sub.cons rfl (Fr.Sub.cons rfl (Fr.Sub.nil _))))))
                      · exact HSub.pick 1 rfl (HSub.pick 1 rfl (HSub.pick 1 rfl (HSub.nil _)))
              · have h52 := of_decide_eq_false h52
                obtain rfl : f = 4 := by omega
                refine RunC.exit ?_
                refine Ends.then_exit ?_
                refine Ends.then_exit ?_
                refine Ends.block_exit ?_
                refine Ends.block ?_
                refine Ends.then ?_
                refine RunC.region ?_
                refine RunL.still rfl rfl rfl (Still.move rfl rfl) ?_
                refine RunL.still rfl rfl rfl (Still.add rfl rfl rfl (fits64 (by omega) (by omega))) ?_
                refine RunL.still rfl rfl rfl (Still.assign rfl rfl) ?_
                refine RunL.nil ?_
                obtain ⟨k, rfl⟩ : ∃ m, k = m + 1 := ⟨k - 1, by have := (List.getElem?_eq_some_iff.1 hu).1; omega⟩
                refine Ends.again (v, q, i + 1, k) ?_ ?_ (Fr.Sub.app ?_ ?_) ?_
                · exact ⟨hO4, by rw [← hM, oBfs_step hu, hT]; rfl, by show i + 1 + k = _; omega⟩
                · exact Nat.lt_succ_self _
                · exact Fr.Sub.cons rfl (Fr.Sub.cons rfl (Fr.Sub.nil _))
                · exact Fr.Sub.cons rfl (Fr.Sub.cons rfl (Fr.Sub.cons rfl (Fr.Sub.cons rfl (Fr.Sub.nil _))))
                · exact HSub.pick 0 rfl (HSub.pick 0 rfl (HSub.pick 0 rfl (HSub.nil _)))
        · have h40 := of_decide_eq_false h40
          refine RunC.exit ?_
          refine Ends.then_exit ?_
          refine Ends.then_exit ?_
          refine Ends.block_exit ?_
          refine Ends.block ?_
          refine Ends.then ?_
          refine RunC.region ?_
          refine RunL.still rfl rfl rfl (Still.add rfl rfl rfl (fits64 (by omega) (by omega))) ?_
          refine RunL.still rfl rfl rfl (Still.move rfl rfl) ?_
          refine RunL.nil ?_
          refine Ends.again (t + 1, s.1) ?_ ?_ (Fr.Sub.app ?_ ?_) ?_
          · exact ⟨by show t + 1 ≤ _; omega, by rw [oAll_new hA hge, ← hM, oBfs_done (by omega)]; rfl⟩
          · show _ - (t + 1) < _ - t; omega
          · exact Fr.Sub.cons rfl (Fr.Sub.nil _)
          · exact Fr.Sub.cons rfl (Fr.Sub.cons rfl (Fr.Sub.cons rfl (Fr.Sub.nil _)))
          · exact HSub.pick 0 rfl (HSub.pick 1 rfl (HSub.nil _))
    · have h25 := of_decide_eq_false h25
      obtain rfl : t = g.length := by omega
      refine RunC.exit ?_
      refine Ends.then_exit ?_
      refine Ends.then_exit ?_
      refine Ends.block_exit ?_
      refine Ends.then ?_
      refine RunC.seq ?_
      refine RunC.region ?_
      refine RunL.still rfl rfl rfl (Still.move rfl rfl) ?_
      refine RunL.still rfl rfl rfl (Still.assign rfl rfl) ?_
      refine RunL.still rfl rfl rfl (Still.assign rfl rfl) ?_
      refine RunL.still rfl rfl rfl (Still.assign rfl rfl) ?_
      refine RunL.nil ?_
      refine Ends.then ?_
      refine RunC.ret ?_
      refine Ends.leave (.inl rfl) (fun _ _ ok => results3 Tryz.results15 (Holds.tmp rfl) (Holds.tmp rfl) (Holds.tmp rfl) ok) (fun w7 hs => ?_)
      exact Ret.intro b21 trivial (by rw [oriV_some hA]; try rfl) (by rw [oriH_some hA]; exact HSub.pick 0 rfl (HSub.nil _)) hs

end Go.Proofs
/- Unions of gluings: contracts of both texts. -/
namespace Go.Proofs
open Go Go.V
set_option maxRecDepth 20000
theorem gl_Clone_some (B A : Addr) (cap : Nat) (g : Glu) (w : World) (hg : GluAt w (some B) A g) (h1000 : g.length ≤ 1000) : Gives Tryz.prog 54 #[.slice (some B) g.length cap] w Nil (fun v : Value => Shape v g.length) (fun v => v) (fun v => [HL.own 35 20 v g.length (g.flatMap encT)]) := by
  refine fn_of_run (S := Nil) (args := [.slice (some B) g.length cap]) (n := 8) (L := []) Tryz.func54 rfl Tryz.ntmps54 (Nat.le_of_ble_eq_true rfl) (Sym.nil _ _) ?_
  change RunC _ _ _ [(0, _)] _
  refine RunC.seq ?_
  refine RunC.region ?_
  refine RunL.still rfl rfl rfl (Still.assign rfl rfl) ?_
  refine RunL.nil ?_
  refine Ends.then ?_
  refine RunC.seq ?_
  refine RunC.seq ?_
  refine RunC.region ?_
  refine RunL.still rfl rfl rfl (Still.move rfl rfl) ?_
  refine RunL.still rfl rfl rfl (Still.eqlNil rfl rfl rfl Tryz.underlying22) ?_
  refine RunL.nil ?_
  refine Ends.then ?_
  refine RunC.cond rfl (fun h4 => ?_) (fun h4 => ?_)
  · skip
    exact absurd h4 (by simp)
  · skip
    refine RunC.skip ?_
    refine Ends.then ?_
    refine RunC.seq ?_
    refine RunC.region ?_
    refine RunL.grows rfl rfl rfl (Grows.empty rfl Tryz.underlying22 Tryz.sizeOf35 Tryz.zeroValue35) (fun b5 _ => ?_)
    refine RunL.still rfl rfl rfl (Still.move rfl rfl) ?_
    refine RunL.does rfl rfl rfl (Does.appendAny (n' := g.length) (xs' := (g.flatMap encT)) (news := (g.flatMap encT)) rfl rfl rfl rfl (fun h0 => hg.base h0) (i := 0) rfl Tryz.underlying22 (by kernel_rfl : Tryz.prog.info? 35 = some Tryz.t35) (by kernel_rfl : (_ : Option _) = some (some (.agg #[.int .i64 0, .int .i64 0, .int .i64 0, .int .i64 0, .int .i64 0, .int .i64 0, .int .i64 0, .int .i64 0, .int .i64 0, .int .i64 0, .int .i64 0, .int .i64 0, .int .i64 0, .int .i64 0, .int .i64 0, .int .i64 0, .int .i64 0, .int .i64 0, .int .i64 0, .int .i64 0]), 20, 160)) rfl rfl (fun w hs => hg.cells.base0 hs) (flat_len encT_len _) (encT_one _) (by omega) (by omega) (Nat.zero_add _) (rfl)) (fun v7 hv7 => ?_)
    refine RunL.still rfl rfl rfl (Still.assign rfl rfl) ?_
    refine RunL.nil ?_
    refine Ends.then ?_
    refine RunC.ret ?_
    refine Ends.leave (.inl rfl) (fun _ _ ok => results1 Tryz.results54 (Holds.tmp rfl) ok) (fun w1 hs => ?_)
    exact Ret.intro v7 (own_shape (hs.own (i := 0) rfl)) rfl (HSub.pick 0 rfl (HSub.nil _)) hs

theorem gl_Clone_none (cap : Nat) (g : Glu) (w : World) (h0 : g = []) : Gives Tryz.prog 54 #[.slice none g.length cap] w Nil (fun v : Value => Shape v g.length) (fun v => v) (fun v => [HL.own 35 20 v g.length (g.flatMap encT)]) := by
  refine fn_of_run (S := Nil) (args := [.slice none g.length cap]) (n := 8) (L := []) Tryz.func54 rfl Tryz.ntmps54 (Nat.le_of_ble_eq_true rfl) (Sym.nil _ _) ?_
  change RunC _ _ _ [(0, _)] _
  refine RunC.seq ?_
  refine RunC.region ?_
  refine RunL.still rfl rfl rfl (Still.assign rfl rfl) ?_
  refine RunL.nil ?_
  refine Ends.then ?_
  refine RunC.seq ?_
  refine RunC.seq ?_
  refine RunC.region ?_
  refine RunL.still rfl rfl rfl (Still.move rfl rfl) ?_
  refine RunL.still rfl rfl rfl (Still.eqlNil rfl rfl rfl Tryz.underlying22) ?_
  refine RunL.nil ?_
  refine Ends.then ?_
  refine RunC.cond rfl (fun h4 => ?_) (fun h4 => ?_)
  · skip
    refine RunC.seq ?_
    refine RunC.region ?_
    refine RunL.still rfl rfl rfl (Still.assign rfl rfl) ?_
    refine RunL.nil ?_
    refine Ends.then ?_
    refine RunC.ret ?_
    refine Ends.then_ret ?_
    refine Ends.leave (.inl rfl) (fun _ _ ok => results1 Tryz.results54 (Holds.tmp rfl) ok) (fun w1 hs => ?_)
    exact Ret.intro (.slice none 0 0) (by rw [h0]; exact ⟨none, 0, rfl, fun h => absurd h (by decide)⟩) rfl (HSub.pick 0 (by rw [h0]; rfl) (HSub.nil _)) (hs.own_nil 35 20)
  · skip
    exact absurd h4 (by decide)

theorem gl_Clone (base : Option Addr) (A : Addr) (cap : Nat) (g : Glu) (w : World) (hg : GluAt w base A g) (h1000 : g.length ≤ 1000) : Gives Tryz.prog 54 #[.slice base g.length cap] w Nil (fun v : Value => Shape v g.length) (fun v => v) (fun v => [HL.own 35 20 v g.length (g.flatMap encT)]) := by
  cases base with
  | some B => exact gl_Clone_some B A cap g w hg h1000
  | none =>
    refine gl_Clone_none cap g w ?_
    rcases Nat.eq_zero_or_pos g.length with h0 | h0
    · exact List.length_eq_zero_iff.1 h0
    · exact absurd (hg.base h0) (by simp)

theorem gl_shifted (base : Option Addr) (A : Addr) (cap : Nat) (g : Glu) (k : Nat) (w : World) (hg : GluAt w base A g) (hk : k ≤ 1000) (hok : okG g = true) : Gives Tryz.prog 55 #[gluV base cap g, iv (k : Int)] w Nil (fun v : Value => Shape v g.length) (fun v => v) (fun v => [HL.own 35 20 v g.length ((g.map fun t => mapF t (shF k)).flatMap encT)]) := by
  have h1000 := okG_len hok
  refine fn_of_run (S := Nil) (args := [gluV base cap g, iv (k : Int)]) (n := 39) (L := []) Tryz.func55 rfl Tryz.ntmps55 (Nat.le_of_ble_eq_true rfl) (Sym.nil _ _) ?_
  change RunC _ _ _ [(0, _), (1, _)] _
  refine RunC.seq ?_
  refine RunC.region ?_
  refine RunL.grows rfl rfl rfl (Grows.box rfl rfl) (fun b2 _ => ?_)
  refine RunL.still rfl rfl rfl (Still.assign rfl rfl) ?_
  refine RunL.nil ?_
  refine Ends.then ?_
  refine RunC.seq ?_
  refine RunC.region ?_
  refine RunL.still rfl rfl rfl (Still.assign rfl rfl) ?_
  refine RunL.own_nil 35 20 ?_
  refine RunL.nil ?_
  refine Ends.then ?_
  refine RunC.seq ?_
  refine RunC.seq ?_
  refine RunC.region ?_
  refine RunL.still rfl rfl rfl (Still.fieldAddrL (off := 0) (off' := 0) rfl rfl Tryz.underlying24 rfl Tryz.sizeOf22 rfl) ?_
  refine RunL.still rfl rfl rfl (Still.load rfl rfl Tryz.isAgg22 (fun _ hs => cell_nth (hs.at (i := 1) rfl) rfl)) ?_
  refine RunL.still rfl rfl rfl (Still.lenSlice rfl rfl Tryz.underlying22) ?_
  refine RunL.still rfl rfl rfl (Still.move rfl rfl) ?_
  refine RunL.nil ?_
  refine Ends.then ?_
  refine RunC.block ?_
  refine RunC.loop2 (γ := Value × Nat) (keep := [(1, _), (10, _), (11, _)]) (hkeep := [_]) (fun (v, t) => t ≤ g.length) (fun (v, t) => g.length - t) (fun (v, t) => [(5, v), (12, iv t)]) (fun (v, t) => [HL.own 35 20 v t (((g.take t).map (fun t => mapF t (shF k))).flatMap encT)]) (.slice none 0 0, 0) (by omega) (Fr.Sub.cons rfl (Fr.Sub.cons rfl (Fr.Sub.nil _))) (Fr.Sub.cons rfl (Fr.Sub.cons rfl (Fr.Sub.cons rfl (Fr.Sub.nil _)))) (HSub.pick 0 rfl (HSub.pick 0 rfl (HSub.nil _))) ?_
  rintro ⟨v, t⟩ ht
  have ht : t ≤ g.length := ht
  refine RunC.seq ?_
  refine RunC.region ?_
  refine RunL.still rfl rfl rfl (Still.lss rfl rfl rfl) ?_
  refine RunL.nil ?_
  refine Ends.then ?_
  refine RunC.seq ?_
  refine RunC.cond rfl (fun h13 => ?_) (fun h13 => ?_)
  · have h13 := of_decide_eq_true h13
    have htN : t < g.length := by omega
    obtain ⟨x, hx⟩ := get_of_lt (l := g) (i := t) htN
    refine RunC.skip ?_
    refine Ends.then ?_
    refine RunC.seq ?_
    refine RunC.block ?_
    refine RunC.seq ?_
    refine RunC.region ?_
    refine RunL.still rfl rfl rfl (Still.indexSliceN rfl rfl rfl Tryz.underlying22 Tryz.sizeOf35 (hg.base (by omega)) (by omega)) ?_
    refine RunL.still rfl rfl rfl (Still.loads rfl rfl Tryz.isAgg35 Tryz.sizeOf35 (vs := [iv x.f0.tet, iv x.f0.p.a0, iv x.f0.p.a1, iv x.f0.p.a2, iv x.f0.p.a3, iv x.f1.tet, iv x.f1.p.a0, iv x.f1.p.a1, iv x.f1.p.a2, iv x.f1.p.a3, iv x.f2.tet, iv x.f2.p.a0, iv x.f2.p.a1, iv x.f2.p.a2, iv x.f2.p.a3, iv x.f3.tet, iv x.f3.p.a0, iv x.f3.p.a1, iv x.f3.p.a2, iv x.f3.p.a3]) rfl (fun _ hs => (hg.sym hs).cell t x hx)) ?_
    refine RunL.grows rfl rfl rfl (Grows.alloc rfl Tryz.zeroValue35) (fun b7 _ => ?_)
    refine RunL.does0 rfl rfl (Does.store rfl rfl rfl (i := 0) rfl Tryz.sizeOf35 rfl (rfl) rfl) (fun _ _ => ?_)
    refine RunL.conv (fun _ hs => hs.re 0 rfl (show _ = HL.obj b7 (.cells (ttA x) 35 (0, 0)) from congrArg (fun z => HL.obj b7 (.cells z 35 (0, 0))) (putT x))) ?_
    refine RunL.nil ?_
    refine Ends.then ?_
    refine RunC.seq ?_
    refine RunC.seq ?_
    refine RunC.region ?_
    refine RunL.still rfl rfl rfl (Still.move rfl rfl) ?_
    refine RunL.nil ?_
    refine Ends.then ?_
    refine RunC.block ?_
    refine RunC.loop2 (γ := Nat) (keep := [(1, _), (5, _), (7, _), (10, _), (11, _), (12, _)]) (hkeep := [_, _]) (fun f => f ≤ 4) (fun f => 4 - f) (fun f => [(16, iv f)]) (fun f => [HL.obj b7 (.cells (ttA (chTo (shF k) x f)) 35 (0, 0))]) 0 (by omega) (Fr.Sub.cons rfl (Fr.Sub.nil _)) (Fr.Sub.cons rfl (Fr.Sub.cons rfl (Fr.Sub.cons rfl (Fr.Sub.cons rfl (Fr.Sub.cons rfl (Fr.Sub.cons rfl (Fr.Sub.nil _))))))) (HSub.pick 0 rfl (HSub.pick 0 rfl (HSub.pick 0 rfl (HSub.nil _)))) ?_
    rintro f hf
    refine RunC.seq ?_
    refine RunC.region ?_
    refine RunL.still rfl rfl rfl (Still.lss rfl rfl rfl) ?_
    refine RunL.nil ?_
    refine Ends.then ?_
    refine RunC.seq ?_
    refine RunC.cond rfl (fun h17 => ?_) (fun h17 => ?_)
    · have h17 := of_decide_eq_true h17
      have hf4 : f < 4 := by omega
      have hxf := okG_tet hok htN hf4
      rw [fAt_of hx] at hxf
      refine RunC.skip ?_
      refine Ends.then ?_
      refine RunC.seq ?_
      refine RunC.block ?_
      refine RunC.seq ?_
      refine RunC.region ?_
      refine RunL.still rfl rfl rfl (Still.move rfl rfl) ?_
      refine RunL.still rfl rfl rfl (Still.assign rfl rfl) ?_
      refine RunL.nil ?_
      refine Ends.then ?_
      refine RunC.seq ?_
      refine RunC.region ?_
      refine RunL.still rfl rfl rfl (Still.move rfl rfl) ?_
      refine RunL.still rfl rfl rfl (Still.indexArrNL rfl rfl rfl Tryz.underlying35 Tryz.sizeOf34 (by omega)) ?_
      refine RunL.still rfl rfl rfl (Still.fieldAddrL rfl rfl Tryz.underlying34 rfl Tryz.sizeOf3 rfl) ?_
      refine RunL.still rfl rfl rfl (Still.load (v := iv (x.at f).tet) rfl rfl Tryz.isAgg3 (fun _ hs => cell_nth (hs.at (i := 0) rfl) (nth_chTo _ _ hf4))) ?_
      refine RunL.still rfl rfl rfl (Still.geq rfl rfl rfl) ?_
      refine RunL.nil ?_
      refine Ends.then ?_
      refine RunC.cond rfl (fun h23 => ?_) (fun h23 => ?_)
      · have h23 := of_decide_eq_true h23
        refine RunC.region ?_
        refine RunL.still rfl rfl rfl (Still.move rfl rfl) ?_
        refine RunL.still rfl rfl rfl (Still.indexArrNL rfl rfl rfl Tryz.underlying35 Tryz.sizeOf34 (by omega)) ?_
        refine RunL.still rfl rfl rfl (Still.fieldAddrL rfl rfl Tryz.underlying34 rfl Tryz.sizeOf3 rfl) ?_
        refine RunL.still rfl rfl rfl (Still.load (v := iv (x.at f).tet) rfl rfl Tryz.isAgg3 (fun _ hs => cell_nth (hs.at (i := 0) rfl) (nth_chTo _ _ hf4))) ?_
        refine RunL.still rfl rfl rfl (Still.move rfl rfl) ?_
        refine RunL.still rfl rfl rfl (Still.add rfl rfl rfl (fits64 (by omega) (by omega))) ?_
        refine RunL.still rfl rfl rfl (Still.indexArrNL rfl rfl rfl Tryz.underlying35 Tryz.sizeOf34 (by omega)) ?_
        refine RunL.still rfl rfl rfl (Still.fieldAddrL rfl rfl Tryz.underlying34 rfl Tryz.sizeOf3 rfl) ?_
        refine RunL.does0 rfl rfl (Does.store1 rfl rfl rfl (i := 0) rfl Tryz.sizeOf3 rfl (Nat.ble_eq_true_of_le (show 0 + f * 5 + 0 + 1 ≤ 20 by omega))) (fun _ _ => ?_)
        refine RunL.conv (fun _ hs => hs.re 0 rfl (show _ = HL.obj b7 (.cells (ttA (chTo (shF k) x (f + 1))) 35 (0, 0)) from congrArg (fun z => HL.obj b7 (.cells z 35 (0, 0))) (chTo_tet hf4 (by rw [shF, if_pos h23])))) ?_
        refine RunL.nil ?_
        refine Ends.block ?_
        refine Ends.then ?_
        refine RunC.region ?_
        refine RunL.still rfl rfl rfl (Still.add rfl rfl rfl (fits64 (by omega) (by omega))) ?_
        refine RunL.still rfl rfl rfl (Still.move rfl rfl) ?_
        refine RunL.nil ?_
        refine Ends.again (f + 1) ?_ ?_ (Fr.Sub.app ?_ ?_) ?_
        · show _; omega
        · show _ < _; omega
        · exact Fr.Sub.cons rfl (Fr.Sub.nil _)
        · exact Fr.Sub.cons rfl (Fr.Sub.cons rfl (Fr.Sub.cons rfl (Fr.Sub.cons rfl (Fr.Sub.cons rfl (Fr.Sub.cons rfl (Fr.Sub.nil _))))))
        · exact HSub.pick 0 rfl (HSub.pick 0 rfl (HSub.pick 0 rfl (HSub.nil _)))
      · have h23 := of_decide_eq_false h23
        refine RunC.skip ?_
        refine Ends.block ?_
        refine Ends.then ?_
        refine RunC.region ?_
        refine RunL.still rfl rfl rfl (Still.add rfl rfl rfl (fits64 (by omega) (by omega))) ?_
        refine RunL.still rfl rfl rfl (Still.move rfl rfl) ?_
        refine RunL.nil ?_
        refine Ends.again (f + 1) ?_ ?_ (Fr.Sub.app ?_ ?_) ?_
        · show _; omega
        · show _ < _; omega
        · exact Fr.Sub.cons rfl (Fr.Sub.nil _)
        · exact Fr.Sub.cons rfl (Fr.Sub.cons rfl (Fr.Sub.cons rfl (Fr.Sub.cons rfl (Fr.Sub.cons rfl (Fr.Sub.cons rfl (Fr.Sub.nil _))))))
        · exact HSub.pick 0 (by rw [chTo_keep hf4 (by rw [shF, if_neg h23])]; rfl) (HSub.pick 0 rfl (HSub.pick 0 rfl (HSub.nil _)))
    · have h17 := of_decide_eq_false h17
      obtain rfl : f = 4 := by omega
      refine RunC.exit ?_
      refine Ends.then_exit ?_
      refine Ends.then_exit ?_
      refine Ends.block_exit ?_
      refine Ends.then ?_
      refine RunC.conv (fun _ hs => hs.re 0 rfl (show _ = HL.obj b7 (.cells (ttV (mapF x (shF k))).cells 35 (0, 0)) by rw [chTo_four]; rfl)) ?_
      refine RunC.region ?_
      refine RunL.still rfl rfl rfl (Still.move rfl rfl) ?_
      refine RunL.still rfl rfl rfl (Still.loads rfl rfl Tryz.isAgg35 Tryz.sizeOf35 (vs := [_, _, _, _, _, _, _, _, _, _, _, _, _, _, _, _, _, _, _, _]) rfl (fun _ hs => cells_nth (hs.at (i := 0) rfl) ⟨rfl, ⟨rfl, ⟨rfl, ⟨rfl, ⟨rfl, ⟨rfl, ⟨rfl, ⟨rfl, ⟨rfl, ⟨rfl, ⟨rfl, ⟨rfl, ⟨rfl, ⟨rfl, ⟨rfl, ⟨rfl, ⟨rfl, ⟨rfl, ⟨rfl, ⟨rfl, trivial⟩⟩⟩⟩⟩⟩⟩⟩⟩⟩⟩⟩⟩⟩⟩⟩⟩⟩⟩⟩)) ?_
      refine RunL.grows rfl rfl rfl (Grows.slice1 rfl rfl Tryz.underlying22 Tryz.sizeOf35 rfl Tryz.zeroValue35 (by decide)) (fun b35 _ => ?_)
      refine RunL.does rfl rfl rfl (Does.appendTo (n' := (t + 1)) (xs' := ((((g.take t).map (fun t => mapF t (shF k))) ++ [mapF x (shF k)]).flatMap encT)) (news := [_, _, _, _, _, _, _, _, _, _, _, _, _, _, _, _, _, _, _, _]) rfl rfl rfl rfl (i := 2) rfl Tryz.underlying22 (by kernel_rfl : (_ : Option _) = some (some (.agg #[.int .i64 0, .int .i64 0, .int .i64 0, .int .i64 0, .int .i64 0, .int .i64 0, .int .i64 0, .int .i64 0, .int .i64 0, .int .i64 0, .int .i64 0, .int .i64 0, .int .i64 0, .int .i64 0, .int .i64 0, .int .i64 0, .int .i64 0, .int .i64 0, .int .i64 0, .int .i64 0]), 20, 160)) rfl rfl (fun _ hs => cells_nth (hs.at (i := 0) rfl) ⟨rfl, ⟨rfl, ⟨rfl, ⟨rfl, ⟨rfl, ⟨rfl, ⟨rfl, ⟨rfl, ⟨rfl, ⟨rfl, ⟨rfl, ⟨rfl, ⟨rfl, ⟨rfl, ⟨rfl, ⟨rfl, ⟨rfl, ⟨rfl, ⟨rfl, ⟨rfl, trivial⟩⟩⟩⟩⟩⟩⟩⟩⟩⟩⟩⟩⟩⟩⟩⟩⟩⟩⟩⟩) rfl rfl (by omega) (by omega) (rfl) (flatT_snoc _ _)) (fun v36 hv36 => ?_)
      refine RunL.still rfl rfl rfl (Still.assign rfl rfl) ?_
      refine RunL.nil ?_
      refine Ends.block ?_
      refine Ends.then ?_
      refine RunC.region ?_
      refine RunL.still rfl rfl rfl (Still.add rfl rfl rfl (fits64 (by omega) (by omega))) ?_
      refine RunL.still rfl rfl rfl (Still.move rfl rfl) ?_
      refine RunL.nil ?_
      refine Ends.again (v36, t + 1) ?_ ?_ (Fr.Sub.app ?_ ?_) ?_
      · show t + 1 ≤ _; omega
      · show _ - (t + 1) < _ - t; omega
      · exact Fr.Sub.cons rfl (Fr.Sub.cons rfl (Fr.Sub.nil _))
      · exact Fr.Sub.cons rfl (Fr.Sub.cons rfl (Fr.Sub.cons rfl (Fr.Sub.nil _)))
      · exact HSub.pick 2 (by rw [List.take_add_one, hx]; simp only [Option.toList_some, List.map_append, List.map_cons, List.map_nil]; rfl) (HSub.pick 2 rfl (HSub.nil _))
  · have h13 := of_decide_eq_false h13
    obtain rfl : t = g.length := by omega
    refine RunC.exit ?_
    refine Ends.then_exit ?_
    refine Ends.then_exit ?_
    refine Ends.block_exit ?_
    refine Ends.then ?_
    refine RunC.seq ?_
    refine RunC.region ?_
    refine RunL.still rfl rfl rfl (Still.move rfl rfl) ?_
    refine RunL.still rfl rfl rfl (Still.assign rfl rfl) ?_
    refine RunL.nil ?_
    refine Ends.then ?_
    refine RunC.ret ?_
    refine Ends.leave (.inl rfl) (fun _ _ ok => results1 Tryz.results55 (Holds.tmp rfl) ok) (fun w1 hs => ?_)
    exact Ret.intro v (own_shape (hs.own (i := 0) rfl)) rfl (HSub.pick 0 (by show some (HL.own 35 20 v g.length (((g.take g.length).map _).flatMap encT)) = _; rw [List.take_length]) (HSub.nil _)) hs

theorem uniG_len (a b : Glu) : (uniG a b).length = a.length + b.length := by simp [uniG]

theorem gl_Union_ok (ba : Option Addr) (A : Addr) (ca : Nat) (a : Glu) (bb : Option Addr) (B : Addr) (cb : Nat) (b : Glu) (w : World) (hga : GluAt w ba A a) (hgb : GluAt w bb B b) (ha : okG a = true) (hb : okG b = true) (hl : a.length + b.length ≤ 1000) : Gives Tryz.prog 22 #[gluV ba ca a, gluV bb cb b] w Nil (fun q : Option Addr × Nat => OKB q (uniG a b).length) (fun q => .tuple #[gluV q.1 q.2 (uniG a b), iv 0]) (fun q => [ownG q (uniG a b)]) := by
  have a1000 := okG_len ha
  have b1000 := okG_len hb
  refine fn_of_run (S := Nil) (args := [gluV ba ca a, gluV bb cb b]) (n := 36) (L := []) Tryz.func22 rfl Tryz.ntmps22 (Nat.le_of_ble_eq_true rfl) (Sym.nil _ _) ?_
  change RunC _ _ _ [(0, _), (1, _)] _
  refine RunC.seq ?_
  refine RunC.region ?_
  refine RunL.grows rfl rfl rfl (Grows.box rfl rfl) (fun b2 _ => ?_)
  refine RunL.grows rfl rfl rfl (Grows.box rfl rfl) (fun b3 _ => ?_)
  refine RunL.grows rfl rfl rfl (Grows.alloc rfl Tryz.zeroValue24) (fun b4 _ => ?_)
  refine RunL.still rfl rfl rfl (Still.assign rfl rfl) ?_
  refine RunL.nil ?_
  refine Ends.then ?_
  refine RunC.seq ?_
  refine RunC.block ?_
  refine RunC.seq ?_
  refine RunC.region ?_
  refine RunL.still rfl rfl rfl (Still.loads rfl rfl Tryz.isAgg24 Tryz.sizeOf24 (vs := [_]) rfl (fun _ hs => cells_nth (hs.at (i := 2) rfl) ⟨rfl, trivial⟩)) ?_
  refine RunL.grows rfl rfl rfl (Grows.call (vs := #[_]) rfl rfl Tryz.call14 (fun w hs => gl_Check ba A ca a w (hga.sym hs))) (fun _ _ => ?_)
  refine RunL.still rfl rfl rfl (Still.neq rfl rfl rfl) ?_
  refine RunL.still rfl rfl rfl (Still.move rfl rfl) ?_
  refine RunL.split (t := 10) rfl (fun h10 => ?_) (fun h10 => ?_)
  · have h10 := of_decide_eq_true h10
    exact absurd (chkG_ok ha) h10
  · skip
    refine RunL.still rfl rfl rfl (Still.loads rfl rfl Tryz.isAgg24 Tryz.sizeOf24 (vs := [_]) rfl (fun _ hs => cells_nth (hs.at (i := 1) rfl) ⟨rfl, trivial⟩)) ?_
    refine RunL.grows rfl rfl rfl (Grows.call (vs := #[_]) rfl rfl Tryz.call14 (fun w hs => gl_Check bb B cb b w (hgb.sym hs))) (fun _ _ => ?_)
    refine RunL.still rfl rfl rfl (Still.neq rfl rfl rfl) ?_
    refine RunL.still rfl rfl rfl (Still.pickF rfl rfl rfl) ?_
    refine RunL.still rfl rfl rfl (Still.assign rfl rfl) ?_
    refine RunL.nil ?_
    refine Ends.then ?_
    refine RunC.cond rfl (fun h6 => ?_) (fun h6 => ?_)
    · have h6 := of_decide_eq_true h6
      exact absurd (chkG_ok hb) h6
    · skip
      refine RunC.seq ?_
      refine RunC.region ?_
      refine RunL.still rfl rfl rfl (Still.fieldAddrL (off := 0) (off' := 0) rfl rfl Tryz.underlying24 rfl Tryz.sizeOf22 rfl) ?_
      refine RunL.still rfl rfl rfl (Still.load rfl rfl Tryz.isAgg22 (fun _ hs => cell_nth (hs.at (i := 2) rfl) rfl)) ?_
      refine RunL.still rfl rfl rfl (Still.lenSlice rfl rfl Tryz.underlying22) ?_
      refine RunL.still rfl rfl rfl (Still.fieldAddrL (off := 0) (off' := 0) rfl rfl Tryz.underlying24 rfl Tryz.sizeOf22 rfl) ?_
      refine RunL.still rfl rfl rfl (Still.load rfl rfl Tryz.isAgg22 (fun _ hs => cell_nth (hs.at (i := 1) rfl) rfl)) ?_
      refine RunL.still rfl rfl rfl (Still.lenSlice rfl rfl Tryz.underlying22) ?_
      refine RunL.still rfl rfl rfl (Still.add rfl rfl rfl (fits64 (by omega) (by omega))) ?_
      refine RunL.still rfl rfl rfl (Still.gtr rfl rfl rfl) ?_
      refine RunL.still rfl rfl rfl (Still.assign rfl rfl) ?_
      refine RunL.nil ?_
      refine Ends.then ?_
      refine RunC.cond rfl (fun h16 => ?_) (fun h16 => ?_)
      · have h16 := of_decide_eq_true h16
        omega
      · have h16 := of_decide_eq_false h16
        refine RunC.skip ?_
        refine Ends.block ?_
        refine Ends.then ?_
        refine RunC.seq ?_
        refine RunC.draw 7 (.still 0 (.still 1 (.still 3 (.still 4 (.still 5 (.still 6 (.one 2 .done))))))) (by kernel_rfl) (by kernel_rfl) ?_
        refine RunG.still rfl rfl rfl rfl (Still.fieldAddrL (off := 0) (off' := 0) rfl rfl Tryz.underlying24 rfl Tryz.sizeOf22 rfl) ?_
        refine RunG.still rfl rfl rfl rfl (Still.load rfl rfl Tryz.isAgg22 (fun _ hs => cell_nth (hs.at (i := 2) rfl) rfl)) ?_
        refine RunG.still rfl rfl rfl rfl (Still.loads rfl rfl Tryz.isAgg24 Tryz.sizeOf24 (vs := [_]) rfl (fun _ hs => cells_nth (hs.at (i := 1) rfl) ⟨rfl, trivial⟩)) ?_
        refine RunG.still rfl rfl rfl rfl (Still.fieldAddrL (off := 0) (off' := 0) rfl rfl Tryz.underlying24 rfl Tryz.sizeOf22 rfl) ?_
        refine RunG.still rfl rfl rfl rfl (Still.load rfl rfl Tryz.isAgg22 (fun _ hs => cell_nth (hs.at (i := 2) rfl) rfl)) ?_
        refine RunG.still rfl rfl rfl rfl (Still.lenSlice rfl rfl Tryz.underlying22) ?_
        refine RunG.grows rfl rfl rfl rfl (Grows.call (vs := #[_]) rfl rfl Tryz.call54 (fun w hs => gl_Clone ba A ca a w (hga.sym hs) (by omega))) (fun v28 hv28 => ?_)
        refine RunG.done ?_
        show RunL _ _ _ [_, _, _, _, _] _ _
        refine RunL.grows rfl rfl rfl (Grows.call (vs := #[_, _]) rfl rfl Tryz.call55 (fun w hs => gl_shifted bb B cb b a.length w (hgb.sym hs) (by omega) hb)) (fun v33 hv33 => ?_)
        obtain ⟨sb, sc, hvs, hsb⟩ := hv33
        subst hvs
        refine RunL.does rfl rfl rfl (Does.appendAny (n' := (a.length + b.length)) (xs' := ((uniG a b).flatMap encT)) (news := ((b.map fun t => mapF t (shF (a.length : Int))).flatMap encT)) rfl rfl rfl rfl (hsb) (i := 1) rfl Tryz.underlying22 (by kernel_rfl : Tryz.prog.info? 35 = some Tryz.t35) (by kernel_rfl : (_ : Option _) = some (some (.agg #[.int .i64 0, .int .i64 0, .int .i64 0, .int .i64 0, .int .i64 0, .int .i64 0, .int .i64 0, .int .i64 0, .int .i64 0, .int .i64 0, .int .i64 0, .int .i64 0, .int .i64 0, .int .i64 0, .int .i64 0, .int .i64 0, .int .i64 0, .int .i64 0, .int .i64 0, .int .i64 0]), 20, 160)) rfl rfl (fun w hs => own_all (hs.own (i := 0) rfl)) (by rw [flat_len encT_len, List.length_map]) (encT_one _) (by omega) (by omega) (rfl) ((by rw [uniG, List.flatMap_append]))) (fun v34 hv34 => ?_)
        refine RunL.know (fun _ hs => own_shape (hs.own (i := 1) rfl)) (fun hsh2 => ?_)
        obtain ⟨vb, vc, hvv, hvb⟩ := hsh2
        subst hvv
        refine RunL.still rfl rfl rfl (Still.build_1 (fun x0_0 => .agg #[x0_0]) rfl rfl (fun _ => by kernel_rfl)) ?_
        refine RunL.does0 rfl rfl (Does.store rfl rfl rfl (i := 2) rfl Tryz.sizeOf24 rfl (rfl) rfl) (fun _ _ => ?_)
        refine RunL.still rfl rfl rfl (Still.assign rfl rfl) ?_
        refine RunL.nil ?_
        refine Ends.then ?_
        refine RunC.ret ?_
        skip
        refine Ends.leave (.inl rfl) (fun _ _ ok => results2 Tryz.results22 (Holds.cell rfl (fun _ hs => load_cells (vs := [_]) Tryz.isAgg24 Tryz.sizeOf24 rfl (cells_nth (hs.at (i := 2) rfl) ⟨rfl, trivial⟩))) (Holds.tmp rfl) ok) (fun w1 hs => ?_)
        exact Ret.intro (vb, vc) (by rw [OKB, uniG_len]; exact hvb) (by show _ = Value.tuple #[gluV vb vc (uniG a b), iv 0]; simp only [gluV, uniG_len]; try rfl) (HSub.pick 1 (by rw [ownG, uniG_len]; rfl) (HSub.nil _)) hs

end Go.Proofs
