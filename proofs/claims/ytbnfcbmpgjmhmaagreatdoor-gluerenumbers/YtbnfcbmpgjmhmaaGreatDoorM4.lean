/- What the rows say of the library's variables; a wrap that keeps the world's shape. -/
import Derived.Test.YtbnfcbmpgjmhmaaGreatDoorM2
import Derived.Test.YtbnfcbmpgjmhmaaGreatDoorRows
import Derived.Stop.LaidErr
import Derived.Stop.Joined
import Derived.LaidMore
import Derived.Lib.LaidTab
import Derived.MakeChecks
import Derived.Shelf.Vars
import Derived.ChangeMaps5
import Derived.HandedShaped
import Derived.Test.YtbnfcbmpgjmhmaaGreatDoorProg
import Derived.Carry
import Derived.Test.YtbnfcbmpgjmhmaaGreatDoorM1
import Derived.Test.YtbnfcbmpgjmhmaaGreatDoorM0
import Derived.KernelRfl
import Derived.Lib.SlTrimSet
namespace Go.Proofs
open Go Go.V Go.ChangeShapes Go.WideShapes
set_option maxRecDepth 100000
theorem z_gES : Tryz.prog.globalNamed "strconv.ErrSyntax" = some 2 := by kernel_rfl
theorem z_gER : Tryz.prog.globalNamed "strconv.ErrRange" = some 3 := by kernel_rfl
theorem z_gPT : Tryz.prog.globalNamed "internal/strconv.uint64pow10" = some 0 := by kernel_rfl
theorem z_gEST : (Tryz.prog.globals[2]?).map (·.type) = some 108 := by kernel_rfl
theorem z_gERT : (Tryz.prog.globals[3]?).map (·.type) = some 108 := by kernel_rfl
theorem z_gPTT : (Tryz.prog.globals[0]?).map (·.type) = some 147 := by kernel_rfl
theorem z_star : "*" ++ "errors.errorString" = "*errors.errorString" := by decide
theorem z_row (u : TypeId) (h : Tryz.prog.typeName? 3 u = some "*errors.errorString") : u = 168 :=
  typeName_ptr_named (nm := "errors.errorString") (by rw [z_star]; kernel_rfl) (by kernel_rfl) (by decide) u (by rw [z_star]; exact h)
theorem z_c170 : Tryz.prog.cellsOf 170 = 1 := by kernel_rfl
theorem z_c9 : Tryz.prog.cellsOf 9 = 1 := by kernel_rfl
theorem z_c129 : Tryz.prog.cellsOf 129 = 1 := by kernel_rfl
theorem z_c147 : Tryz.prog.cellsOf 147 = 20 := by kernel_rfl
abbrev laidT : List (String × DataW Unit) := YtbnfcbmpgjmhmaaGreatDoor.Rows.glueMakesRow.laid
theorem laidT_plain : (laidT.all fun x => x.2.handleName?.isNone) = true := by kernel_rfl
theorem env_of_laid {W : World} (h : laidMetH Tryz.prog laidT W) (hsh : W.ShapedOpen Tryz.prog) : Env W := by
  rw [MakeChecks.laidMetH_plain _ _ _ laidT_plain] at h
  have h2 := h.tail.tail
  have h5 := h2.tail.tail.tail
  have h4 := h2.tail.tail
  have tab : Lib.TabIs Tryz.prog W "internal/strconv.uint64pow10" .u64 Lib.pow10Tab := Lib.tabIs_of_head z_gPT z_gPTT Tryz.underlying147 Tryz.underlying129 z_c129 z_c147 h2
  obtain ⟨a0, s0, e0, -, -, -⟩ := laid_sentinel h5 z_gES z_gEST Tryz.underlying108 z_row Tryz.underlying168 Tryz.underlying170 rfl rfl Tryz.underlying9 z_c170 z_c9
  obtain ⟨a1, s1, e1, -, -, -⟩ := laid_sentinel h4 z_gER z_gERT Tryz.underlying108 z_row Tryz.underlying168 Tryz.underlying170 rfl rfl Tryz.underlying9 z_c170 z_c9
  refine ⟨tab, ?_, ⟨_, _, e0⟩, ⟨_, _, e1⟩⟩
  exact cell_of_shapedOpen_int (zero := #[.int .i64 0]) (t := 3) hsh (of_decide_eq_true (by kernel_rfl)) (by kernel_rfl) rfl (by kernel_rfl) (by kernel_rfl) Tryz.underlying3
section
variable {H : Type} {enc : TypeId × Value → H}
/-- The wrap with a condition on the world, the world's shape kept. -/
theorem wrap_and_shaped {a : Assume} {C : Checked} {os : Os} {f : FuncId} {fn : Func} {s : ChangeSpec} {conds : List PathCond} {apart fresh handsOn again : Bool} {X : World → Array Value → Prop}
    (hX : ∀ (w w' : World) (args : Array Value), w.heap = w'.heap → X w args → X w' args)
    (own : ownKnob C.prog.godebug = none) (started : os.Started) (noInit : C.prog.inits.idxOf? f = none) (hfn : C.prog.funcs[f]? = some fn)
    (witness : ∃ (w : World) (tape : Tape) (i : Input), w.os = os ∧ (w.forCall tape i).Shaped C.prog ∧ i.vars = [] ∧ Input.okWide C.prog (w.forCall tape i) .any w.heap.size f i ∧
      ((s.pre enc C.prog fn conds apart (w.forCall tape i).memory i.args ∧ X (w.forCall tape i).memory i.args) ∧ sizedMet enc C.prog fn (OpenSpec.ofChange s) apart (w.forCall tape i).memory i.args) ∧ a.holds C.prog (lone (Frame.enter C.prog f i.args .normal) [] (w.forCall tape i)))
    (contract : ∀ (W : World) (base : Nat) (args : Array Value) (ds gs : List (DataW H)) (before : List MemPlace),
      (∀ (j : Nat) t v, fn.params[j]? = some t → args[j]? = some v → Value.okWide C.prog W .any base t v) →
      DataW.Whole enc C.prog fn.params.toList s.vars apart W args.toList ds gs before →
      X W args → W.ShapedOpen C.prog →
      Calls C.prog f args W fun e W' => ∃ v, e = .returned v ∧ s.post enc C.prog fn apart fresh handsOn again W args v W') :
    ReturnsInHanded a C os f .any (fun w args => (s.pre enc C.prog fn conds apart w args ∧ X w args) ∧ sizedMet enc C.prog fn (OpenSpec.ofChange s) apart w args) (s.post enc C.prog fn apart fresh handsOn again) := by
  refine returnsInHanded_of_calls own started noInit witness ?_
  intro w tape i _ hsh _ hok hpre hholds
  obtain ⟨_, _, _, fn', hfn', _, _, _, _, hval⟩ := hok
  have e : fn' = fn := Option.some.inj (hfn'.symm.trans hfn)
  subst e
  obtain ⟨⟨⟨ds, gs, before, hw, hc⟩, hx⟩, hz⟩ := hpre
  have hw' := DataW.Whole.of_heap (w' := w.forCall tape i) (by rfl) hw
  refine (contract (w.forCall tape i) w.heap.size i.args ds gs before hval hw' (hX _ _ _ (by rfl) hx) hsh).mono fun e W' ⟨v, he, hp⟩ => ?_
  subst he
  exact ChangeSpec.post_blind hp
end
end Go.Proofs
/- Five arguments: opened and shut. -/
namespace Go.Proofs
open Go Go.ChangeShapes Go.RowKit
section
variable {H : Type} {enc : TypeId × Value → H} {P : Program} {w : World} {base : Nat} {spare : Nat → Bool} {held : Bool}
theorem trodAll_five {t t' t'' t3 t4 : TypeId} {args : Array Value} {ds : List (DataW H)} {ps : List MemPlace} (h : DataW.TrodAll enc P w base spare held [t, t', t'', t3, t4] args.toList ds ps) :
    ∃ v v' v'' v3 v4 d d' d'' d3 d4 p p' p'' p3 p4, args = #[v, v', v'', v3, v4] ∧ ds = [d, d', d'', d3, d4] ∧ ps = p ++ p' ++ p'' ++ p3 ++ p4 ∧ DataW.Trod enc P w base spare held t v d p ∧ DataW.Trod enc P w base spare held t' v' d' p' ∧ DataW.Trod enc P w base spare held t'' v'' d'' p'' ∧ DataW.Trod enc P w base spare held t3 v3 d3 p3 ∧ DataW.Trod enc P w base spare held t4 v4 d4 p4 := by
  obtain ⟨v, vs, d, ds', p, q, hargs, rfl, rfl, hd, hrest⟩ := trodAll_cons h
  obtain ⟨v', vs', d', ds'', p', q', rfl, rfl, rfl, hd', hrest'⟩ := trodAll_cons hrest
  obtain ⟨v'', vs'', d'', ds''', p'', q'', rfl, rfl, rfl, hd'', hrest''⟩ := trodAll_cons hrest'
  obtain ⟨v3, vs3, d3, ds3, p3, q3, rfl, rfl, rfl, hd3, hrest3⟩ := trodAll_cons hrest''
  obtain ⟨v4, vs4, d4, ds4, p4, q4, rfl, rfl, rfl, hd4, hrest4⟩ := trodAll_cons hrest3
  obtain ⟨rfl, rfl, rfl⟩ := trodAll_nil hrest4
  exact ⟨v, v', v'', v3, v4, d, d', d'', d3, d4, p, p', p'', p3, p4, by cases args; simp_all, rfl, by simp, hd, hd', hd'', hd3, hd4⟩
theorem trodAll_mk5 {t t' t'' t3 t4 : TypeId} {v v' v'' v3 v4 : Value} {d d' d'' d3 d4 : DataW H} {p p' p'' p3 p4 : List MemPlace} (h : DataW.Trod enc P w base spare held t v d p) (h' : DataW.Trod enc P w base spare held t' v' d' p')
    (h'' : DataW.Trod enc P w base spare held t'' v'' d'' p'') (h3 : DataW.Trod enc P w base spare held t3 v3 d3 p3) (h4 : DataW.Trod enc P w base spare held t4 v4 d4 p4) : DataW.TrodAll enc P w base spare held [t, t', t'', t3, t4] [v, v', v'', v3, v4] [d, d', d'', d3, d4] (p ++ (p' ++ (p'' ++ (p3 ++ p4)))) := ⟨p, p' ++ (p'' ++ (p3 ++ p4)), h, trodAll_mk4 h' h'' h3 h4, rfl⟩
end
end Go.Proofs
/- Rules for values put together: more shapes. -/
namespace Go.V
open Go
section builds
variable {C : Cx} {F : Fr} {L : List HL} {o : Oper}
theorem Still.build_5_5_5_5 {t : TypeId} {i0 i1 i2 i3 : Nat} {a0 a1 a2 a3 : Operand} {x0_0 x0_1 x0_2 x0_3 x0_4 x1_0 x1_1 x1_2 x1_3 x1_4 x2_0 x2_1 x2_2 x2_3 x2_4 x3_0 x3_1 x3_2 x3_3 x3_4 : Value} (g : Value → Value → Value → Value → Value → Value → Value → Value → Value → Value → Value → Value → Value → Value → Value → Value → Value → Value → Value → Value → Value) (ho : o.op = .build t #[(i0, a0), (i1, a1), (i2, a2), (i3, a3)]) (h0 : F.ev a0 = some (.agg #[x0_0, x0_1, x0_2, x0_3, x0_4])) (h1 : F.ev a1 = some (.agg #[x1_0, x1_1, x1_2, x1_3, x1_4])) (h2 : F.ev a2 = some (.agg #[x2_0, x2_1, x2_2, x2_3, x2_4])) (h3 : F.ev a3 = some (.agg #[x3_0, x3_1, x3_2, x3_3, x3_4])) (hr : ∀ w, (Instr.build t #[(i0, (.agg #[x0_0, x0_1, x0_2, x0_3, x0_4])), (i1, (.agg #[x1_0, x1_1, x1_2, x1_3, x1_4])), (i2, (.agg #[x2_0, x2_1, x2_2, x2_3, x2_4])), (i3, (.agg #[x3_0, x3_1, x3_2, x3_3, x3_4]))]).run C.P w = .ok (g x0_0 x0_1 x0_2 x0_3 x0_4 x1_0 x1_1 x1_2 x1_3 x1_4 x2_0 x2_1 x2_2 x2_3 x2_4 x3_0 x3_1 x3_2 x3_3 x3_4) w) : Still C o F L (g x0_0 x0_1 x0_2 x0_3 x0_4 x1_0 x1_1 x1_2 x1_3 x1_4 x2_0 x2_1 x2_2 x2_3 x2_4 x3_0 x3_1 x3_2 x3_3 x3_4) :=
  Still.build (vs := #[(i0, (.agg #[x0_0, x0_1, x0_2, x0_3, x0_4])), (i1, (.agg #[x1_0, x1_1, x1_2, x1_3, x1_4])), (i2, (.agg #[x2_0, x2_1, x2_2, x2_3, x2_4])), (i3, (.agg #[x3_0, x3_1, x3_2, x3_3, x3_4]))]) ho (by simp only [List.map_cons, List.map_nil, h0, h1, h2, h3]) hr
/-- 's[i:]'. -/
theorem Still.sliceFrom {t e : TypeId} {x y : Operand} {A : Addr} {n cap size : Nat} {k : IntKind} {z : Int} (i : Nat) (ho : o.op = .slice t x (some y) none none) (hx : F.ev x = some (.slice (some A) n cap)) (hy : F.ev y = some (.int k z)) (ht : C.P.underlying t = some (.slice e)) (hz : ∀ w, (sizeOf e).run C.P w = .ok size w)
    (hzi : z = (i : Int)) (hi : i ≤ n ∧ n ≤ cap) : Still C o F L (.slice (some (if cap = i then A else A.add (i * size))) (n - i) (cap - i)) :=
  ⟨fun c h => (by rw [ho] at h; cases h), fun a w ok => by
    subst hzi
    obtain ⟨h1, h2⟩ := hi
    simp only [execOp, ho, ok.fr.ev hx, Option.map, ok.fr.ev hy]
    simp [Instr.sliceAt, Instr.slice, run_underlying ht, Instr.sliceBounds, Instr.sliceBound, asIntOf, hz, h1]
    split <;> simp⟩
end builds
end Go.V
/- Equality of gluings and of lists; counts; small gluings. -/
namespace Go.Proofs
open Go Go.V
set_option maxRecDepth 20000
theorem eqT (d : Nat) (x y : Tt) (w : World) : (Op.equalIn (d + 4) 35 (ttV x) (ttV y)).run Tryz.prog w = .ok (decide (x = y)) w := by
  have h := eq_arr4N (P := Tryz.prog) (t := 35) (e := 34) (i := Tryz.t34) Tryz.underlying35 (by kernel_rfl) (by kernel_rfl) Tryz.sizeOf34 Tryz.isAgg34 (d := d + 2) (cs := (ttV x).cells) (us := (ttV y).cells)
    (fun w => eqF d x.f0.tet x.f0.p.a0 x.f0.p.a1 x.f0.p.a2 x.f0.p.a3 y.f0.tet y.f0.p.a0 y.f0.p.a1 y.f0.p.a2 y.f0.p.a3 w) (fun w => eqF d x.f1.tet x.f1.p.a0 x.f1.p.a1 x.f1.p.a2 x.f1.p.a3 y.f1.tet y.f1.p.a0 y.f1.p.a1 y.f1.p.a2 y.f1.p.a3 w)
    (fun w => eqF d x.f2.tet x.f2.p.a0 x.f2.p.a1 x.f2.p.a2 x.f2.p.a3 y.f2.tet y.f2.p.a0 y.f2.p.a1 y.f2.p.a2 y.f2.p.a3 w) (fun w => eqF d x.f3.tet x.f3.p.a0 x.f3.p.a1 x.f3.p.a2 x.f3.p.a3 y.f3.tet y.f3.p.a0 y.f3.p.a1 y.f3.p.a2 y.f3.p.a3 w) w
  rw [show (ttV x) = .agg (ttV x).cells from rfl, show (ttV y) = .agg (ttV y).cells from rfl, h]
  congr 1
  refine decide_eq_decide.2 ?_
  rw [fc_eq, fc_eq, fc_eq, fc_eq]
  obtain ⟨a, b, c, e⟩ := x
  obtain ⟨a', b', c', e'⟩ := y
  simp
theorem take_eq_succ {α : Type} {a b : List α} {i : Nat} {x : α} (h : a.take i = b.take i) (ha : a[i]? = some x) (hb : b[i]? = some x) : a.take (i + 1) = b.take (i + 1) := by rw [List.take_add_one, List.take_add_one, h, ha, hb]
theorem take_eq_all {α : Type} {a b : List α} (h : a.take a.length = b.take a.length) (hl : a.length = b.length) : a = b := by rwa [List.take_length, hl, List.take_length] at h

theorem gl_Equal (ba : Option Addr) (A : Addr) (ca : Nat) (a : Glu) (bb : Option Addr) (B : Addr) (cb : Nat) (b : Glu) (w : World) (hga : GluAt w ba A a) (hgb : GluAt w bb B b) : Gives Tryz.prog 60 #[.slice ba a.length ca, .slice bb b.length cb] w Nil (fun _ : Unit => True) (fun _ => .bool (decide (a = b))) (fun _ => []) := by
  have hlen := hga.len
  have hlen2 := hgb.len
  refine fn_of_run (S := Nil) (args := [.slice ba a.length ca, .slice bb b.length cb]) (n := 26) (L := []) Tryz.func60 rfl Tryz.ntmps60 (Nat.le_of_ble_eq_true rfl) (Sym.nil _ _) ?_
  change RunC _ _ _ [(0, _), (1, _)] _
  refine RunC.seq ?_
  refine RunC.region ?_
  refine RunL.still rfl rfl rfl (Still.assign rfl rfl) ?_
  refine RunL.nil ?_
  refine Ends.then ?_
  refine RunC.seq ?_
  refine RunC.seq ?_
  refine RunC.region ?_
  refine RunL.still rfl rfl rfl (Still.move rfl rfl) ?_
  refine RunL.still rfl rfl rfl (Still.lenSlice rfl rfl Tryz.underlying22) ?_
  refine RunL.still rfl rfl rfl (Still.move rfl rfl) ?_
  refine RunL.still rfl rfl rfl (Still.lenSlice rfl rfl Tryz.underlying22) ?_
  refine RunL.still rfl rfl rfl (Still.neq rfl rfl rfl) ?_
  refine RunL.nil ?_
  refine Ends.then ?_
  refine RunC.cond rfl (fun h10 => ?_) (fun h10 => ?_)
  · have h10 := of_decide_eq_true h10
    refine RunC.seq ?_
    refine RunC.region ?_
    refine RunL.still rfl rfl rfl (Still.assign rfl rfl) ?_
    refine RunL.nil ?_
    refine Ends.then ?_
    refine RunC.ret ?_
    refine Ends.then_ret ?_
    refine Ends.leave (.inl rfl) (fun _ _ ok => results1 Tryz.results60 (Holds.tmp rfl) ok) (fun w1 hs => ?_)
    exact Ret.intro () trivial (congrArg Value.bool (decide_eq_false (fun e => h10 (by rw [e]))).symm) (HSub.nil _) hs
  · have h10 := of_decide_eq_false h10
    have hl : a.length = b.length := by omega
    refine RunC.skip ?_
    refine Ends.then ?_
    refine RunC.seq ?_
    refine RunC.seq ?_
    refine RunC.region ?_
    refine RunL.still rfl rfl rfl (Still.move rfl rfl) ?_
    refine RunL.still rfl rfl rfl (Still.lenSlice rfl rfl Tryz.underlying22) ?_
    refine RunL.still rfl rfl rfl (Still.move rfl rfl) ?_
    refine RunL.nil ?_
    refine Ends.then ?_
    refine RunC.block ?_
    refine RunC.loop2 (γ := Nat) (keep := [(0, _), (1, _), (12, _)]) (hkeep := []) (fun i => i ≤ a.length ∧ a.take i = b.take i) (fun i => a.length - i) (fun i => [(13, iv i)]) (fun i => []) 0 ⟨by omega, rfl⟩ (Fr.Sub.cons rfl (Fr.Sub.nil _)) (Fr.Sub.cons rfl (Fr.Sub.cons rfl (Fr.Sub.cons rfl (Fr.Sub.nil _)))) (HSub.nil _) ?_
    rintro i ⟨hi, htk⟩
    refine RunC.seq ?_
    refine RunC.region ?_
    refine RunL.still rfl rfl rfl (Still.lss rfl rfl rfl) ?_
    refine RunL.nil ?_
    refine Ends.then ?_
    refine RunC.seq ?_
    refine RunC.cond rfl (fun h14 => ?_) (fun h14 => ?_)
    · have h14 := of_decide_eq_true h14
      obtain ⟨x, hx⟩ := get_of_lt (l := a) (i := i) (by omega)
      obtain ⟨y, hy⟩ := get_of_lt (l := b) (i := i) (by omega)
      refine RunC.skip ?_
      refine Ends.then ?_
      refine RunC.seq ?_
      refine RunC.block ?_
      refine RunC.seq ?_
      refine RunC.region ?_
      refine RunL.still rfl rfl rfl (Still.move rfl rfl) ?_
      refine RunL.still rfl rfl rfl (Still.assign rfl rfl) ?_
      refine RunL.nil ?_
      refine Ends.then ?_
      refine RunC.seq ?_
      refine RunC.draw 8 (.still 0 (.still 1 (.still 2 (.still 3 (.still 4 (.still 5 (.still 6 (.still 7 .done)))))))) (by kernel_rfl) (by kernel_rfl) ?_
      refine RunG.still rfl rfl rfl rfl (Still.move rfl rfl) ?_
      refine RunG.still rfl rfl rfl rfl (Still.move rfl rfl) ?_
      refine RunG.still rfl rfl rfl rfl (Still.indexSliceN rfl rfl rfl Tryz.underlying22 Tryz.sizeOf35 (hga.base (by omega)) (by omega)) ?_
      refine RunG.still rfl rfl rfl rfl (Still.loads rfl rfl Tryz.isAgg35 Tryz.sizeOf35 (vs := [iv x.f0.tet, iv x.f0.p.a0, iv x.f0.p.a1, iv x.f0.p.a2, iv x.f0.p.a3, iv x.f1.tet, iv x.f1.p.a0, iv x.f1.p.a1, iv x.f1.p.a2, iv x.f1.p.a3, iv x.f2.tet, iv x.f2.p.a0, iv x.f2.p.a1, iv x.f2.p.a2, iv x.f2.p.a3, iv x.f3.tet, iv x.f3.p.a0, iv x.f3.p.a1, iv x.f3.p.a2, iv x.f3.p.a3]) rfl (fun _ hs => (hga.sym hs).cell i x hx)) ?_
      refine RunG.still rfl rfl rfl rfl (Still.move rfl rfl) ?_
      refine RunG.still rfl rfl rfl rfl (Still.move rfl rfl) ?_
      refine RunG.still rfl rfl rfl rfl (Still.indexSliceN rfl rfl rfl Tryz.underlying22 Tryz.sizeOf35 (hgb.base (by omega)) (by omega)) ?_
      refine RunG.still rfl rfl rfl rfl (Still.loads rfl rfl Tryz.isAgg35 Tryz.sizeOf35 (vs := [iv y.f0.tet, iv y.f0.p.a0, iv y.f0.p.a1, iv y.f0.p.a2, iv y.f0.p.a3, iv y.f1.tet, iv y.f1.p.a0, iv y.f1.p.a1, iv y.f1.p.a2, iv y.f1.p.a3, iv y.f2.tet, iv y.f2.p.a0, iv y.f2.p.a1, iv y.f2.p.a2, iv y.f2.p.a3, iv y.f3.tet, iv y.f3.p.a0, iv y.f3.p.a1, iv y.f3.p.a2, iv y.f3.p.a3]) rfl (fun _ hs => (hgb.sym hs).cell i y hy)) ?_
      refine RunG.done ?_
      show RunL _ _ _ [_] _ _
      refine RunL.still rfl rfl rfl (Still.neqAgg rfl rfl rfl Tryz.eqGuardType35 (fun _ => eqT _ _ _ _)) ?_
      refine RunL.nil ?_
      refine Ends.then ?_
      refine RunC.cond rfl (fun h24 => ?_) (fun h24 => ?_)
      · have h24 : ¬ x = y := by simpa using h24
        refine RunC.seq ?_
        refine RunC.region ?_
        refine RunL.still rfl rfl rfl (Still.assign rfl rfl) ?_
        refine RunL.nil ?_
        refine Ends.then ?_
        refine RunC.ret ?_
        refine Ends.block_ret ?_
        refine Ends.then_ret ?_
        refine Ends.then_ret ?_
        refine Ends.block_ret ?_
        refine Ends.then_ret ?_
        refine Ends.leave (.inl rfl) (fun _ _ ok => results1 Tryz.results60 (Holds.tmp rfl) ok) (fun w2 hs => ?_)
        exact Ret.intro () trivial (congrArg Value.bool (decide_eq_false (fun e => h24 (by subst e; rw [hx] at hy; exact Option.some.inj hy))).symm) (HSub.nil _) hs
      · have h24 : x = y := by simpa using h24
        refine RunC.skip ?_
        refine Ends.block ?_
        refine Ends.then ?_
        refine RunC.region ?_
        refine RunL.still rfl rfl rfl (Still.add rfl rfl rfl (fits64 (by omega) (by omega))) ?_
        refine RunL.still rfl rfl rfl (Still.move rfl rfl) ?_
        refine RunL.nil ?_
        obtain rfl : x = y := h24
        refine Ends.again (i + 1) ?_ ?_ (Fr.Sub.app ?_ ?_) ?_
        · exact ⟨by omega, take_eq_succ htk hx hy⟩
        · show _ < _; omega
        · exact Fr.Sub.cons rfl (Fr.Sub.nil _)
        · exact Fr.Sub.cons rfl (Fr.Sub.cons rfl (Fr.Sub.cons rfl (Fr.Sub.nil _)))
        · exact HSub.nil _
    · have h14 := of_decide_eq_false h14
      obtain rfl : i = a.length := by omega
      refine RunC.exit ?_
      refine Ends.then_exit ?_
      refine Ends.then_exit ?_
      refine Ends.block_exit ?_
      refine Ends.then ?_
      refine RunC.seq ?_
      refine RunC.region ?_
      refine RunL.still rfl rfl rfl (Still.assign rfl rfl) ?_
      refine RunL.nil ?_
      refine Ends.then ?_
      refine RunC.ret ?_
      refine Ends.leave (.inl rfl) (fun _ _ ok => results1 Tryz.results60 (Holds.tmp rfl) ok) (fun w3 hs => ?_)
      exact Ret.intro () trivial (congrArg Value.bool (decide_eq_true (take_eq_all htk hl)).symm) (HSub.nil _) hs

theorem rf_Same (ba : Option Addr) (A : Addr) (ca : Nat) (a : Glu) (bb : Option Addr) (B : Addr) (cb : Nat) (b : Glu) (w : World) (hga : GluAt w ba A a) (hgb : GluAt w bb B b) : Gives Tryz.prog 20 #[gluV ba ca a, gluV bb cb b] w Nil (fun _ : Unit => True) (fun _ => .bool (decide (a = b))) (fun _ => []) := by
  have hlen := hga.len
  have hlen2 := hgb.len
  refine fn_of_run (S := Nil) (args := [gluV ba ca a, gluV bb cb b]) (n := 31) (L := []) Tryz.func20 rfl Tryz.ntmps20 (Nat.le_of_ble_eq_true rfl) (Sym.nil _ _) ?_
  change RunC _ _ _ [(0, _), (1, _)] _
  refine RunC.seq ?_
  refine RunC.region ?_
  refine RunL.grows rfl rfl rfl (Grows.box rfl rfl) (fun b2 _ => ?_)
  refine RunL.grows rfl rfl rfl (Grows.box rfl rfl) (fun b3 _ => ?_)
  refine RunL.still rfl rfl rfl (Still.assign rfl rfl) ?_
  refine RunL.nil ?_
  refine Ends.then ?_
  refine RunC.seq ?_
  refine RunC.seq ?_
  refine RunC.region ?_
  refine RunL.still rfl rfl rfl (Still.fieldAddrL (off := 0) (off' := 0) rfl rfl Tryz.underlying24 rfl Tryz.sizeOf22 rfl) ?_
  refine RunL.still rfl rfl rfl (Still.load rfl rfl Tryz.isAgg22 (fun _ hs => cell_nth (hs.at (i := 1) rfl) rfl)) ?_
  refine RunL.still rfl rfl rfl (Still.lenSlice rfl rfl Tryz.underlying22) ?_
  refine RunL.still rfl rfl rfl (Still.fieldAddrL (off := 0) (off' := 0) rfl rfl Tryz.underlying24 rfl Tryz.sizeOf22 rfl) ?_
  refine RunL.still rfl rfl rfl (Still.load rfl rfl Tryz.isAgg22 (fun _ hs => cell_nth (hs.at (i := 0) rfl) rfl)) ?_
  refine RunL.still rfl rfl rfl (Still.lenSlice rfl rfl Tryz.underlying22) ?_
  refine RunL.still rfl rfl rfl (Still.neq rfl rfl rfl) ?_
  refine RunL.nil ?_
  refine Ends.then ?_
  refine RunC.cond rfl (fun h12 => ?_) (fun h12 => ?_)
  · have h12 := of_decide_eq_true h12
    refine RunC.seq ?_
    refine RunC.region ?_
    refine RunL.still rfl rfl rfl (Still.assign rfl rfl) ?_
    refine RunL.nil ?_
    refine Ends.then ?_
    refine RunC.ret ?_
    refine Ends.then_ret ?_
    refine Ends.leave (.inl rfl) (fun _ _ ok => results1 Tryz.results20 (Holds.tmp rfl) ok) (fun w1 hs => ?_)
    exact Ret.intro () trivial (congrArg Value.bool (decide_eq_false (fun e => h12 (by rw [e]))).symm) (HSub.nil _) hs
  · have h12 := of_decide_eq_false h12
    have hl : a.length = b.length := by omega
    refine RunC.skip ?_
    refine Ends.then ?_
    refine RunC.seq ?_
    refine RunC.seq ?_
    refine RunC.region ?_
    refine RunL.still rfl rfl rfl (Still.assign rfl rfl) ?_
    refine RunL.nil ?_
    refine Ends.then ?_
    refine RunC.block ?_
    refine RunC.loop2 (γ := Nat) (keep := [(2, _), (3, _)]) (hkeep := [_, _]) (fun i => i ≤ a.length ∧ a.take i = b.take i) (fun i => a.length - i) (fun i => [(5, iv i)]) (fun i => []) 0 ⟨by omega, rfl⟩ (Fr.Sub.cons rfl (Fr.Sub.nil _)) (Fr.Sub.cons rfl (Fr.Sub.cons rfl (Fr.Sub.nil _))) (HSub.pick 0 rfl (HSub.pick 0 rfl (HSub.nil _))) ?_
    rintro i ⟨hi, htk⟩
    refine RunC.seq ?_
    refine RunC.seq ?_
    refine RunC.region ?_
    refine RunL.still rfl rfl rfl (Still.move rfl rfl) ?_
    refine RunL.still rfl rfl rfl (Still.fieldAddrL (off := 0) (off' := 0) rfl rfl Tryz.underlying24 rfl Tryz.sizeOf22 rfl) ?_
    refine RunL.still rfl rfl rfl (Still.load rfl rfl Tryz.isAgg22 (fun _ hs => cell_nth (hs.at (i := 1) rfl) rfl)) ?_
    refine RunL.still rfl rfl rfl (Still.lenSlice rfl rfl Tryz.underlying22) ?_
    refine RunL.still rfl rfl rfl (Still.lss rfl rfl rfl) ?_
    refine RunL.nil ?_
    refine Ends.then ?_
    refine RunC.cond rfl (fun h17 => ?_) (fun h17 => ?_)
    · have h17 := of_decide_eq_true h17
      obtain ⟨x, hx⟩ := get_of_lt (l := a) (i := i) (by omega)
      obtain ⟨y, hy⟩ := get_of_lt (l := b) (i := i) (by omega)
      refine RunC.skip ?_
      refine Ends.then ?_
      refine RunC.seq ?_
      refine RunC.block ?_
      refine RunC.seq ?_
      refine RunC.draw 10 (.still 0 (.still 1 (.still 2 (.still 3 (.still 4 (.still 5 (.still 6 (.still 7 (.still 8 (.still 9 .done)))))))))) (by kernel_rfl) (by kernel_rfl) ?_
      refine RunG.still rfl rfl rfl rfl (Still.fieldAddrL (off := 0) (off' := 0) rfl rfl Tryz.underlying24 rfl Tryz.sizeOf22 rfl) ?_
      refine RunG.still rfl rfl rfl rfl (Still.load rfl rfl Tryz.isAgg22 (fun _ hs => cell_nth (hs.at (i := 1) rfl) rfl)) ?_
      refine RunG.still rfl rfl rfl rfl (Still.move rfl rfl) ?_
      refine RunG.still rfl rfl rfl rfl (Still.indexSliceN rfl rfl rfl Tryz.underlying22 Tryz.sizeOf35 (hga.base (by omega)) (by omega)) ?_
      refine RunG.still rfl rfl rfl rfl (Still.loads rfl rfl Tryz.isAgg35 Tryz.sizeOf35 (vs := [iv x.f0.tet, iv x.f0.p.a0, iv x.f0.p.a1, iv x.f0.p.a2, iv x.f0.p.a3, iv x.f1.tet, iv x.f1.p.a0, iv x.f1.p.a1, iv x.f1.p.a2, iv x.f1.p.a3, iv x.f2.tet, iv x.f2.p.a0, iv x.f2.p.a1, iv x.f2.p.a2, iv x.f2.p.a3, iv x.f3.tet, iv x.f3.p.a0, iv x.f3.p.a1, iv x.f3.p.a2, iv x.f3.p.a3]) rfl (fun _ hs => (hga.sym hs).cell i x hx)) ?_
      refine RunG.still rfl rfl rfl rfl (Still.fieldAddrL (off := 0) (off' := 0) rfl rfl Tryz.underlying24 rfl Tryz.sizeOf22 rfl) ?_
      refine RunG.still rfl rfl rfl rfl (Still.load rfl rfl Tryz.isAgg22 (fun _ hs => cell_nth (hs.at (i := 0) rfl) rfl)) ?_
      refine RunG.still rfl rfl rfl rfl (Still.move rfl rfl) ?_
      refine RunG.still rfl rfl rfl rfl (Still.indexSliceN rfl rfl rfl Tryz.underlying22 Tryz.sizeOf35 (hgb.base (by omega)) (by omega)) ?_
      refine RunG.still rfl rfl rfl rfl (Still.loads rfl rfl Tryz.isAgg35 Tryz.sizeOf35 (vs := [iv y.f0.tet, iv y.f0.p.a0, iv y.f0.p.a1, iv y.f0.p.a2, iv y.f0.p.a3, iv y.f1.tet, iv y.f1.p.a0, iv y.f1.p.a1, iv y.f1.p.a2, iv y.f1.p.a3, iv y.f2.tet, iv y.f2.p.a0, iv y.f2.p.a1, iv y.f2.p.a2, iv y.f2.p.a3, iv y.f3.tet, iv y.f3.p.a0, iv y.f3.p.a1, iv y.f3.p.a2, iv y.f3.p.a3]) rfl (fun _ hs => (hgb.sym hs).cell i y hy)) ?_
      refine RunG.done ?_
      show RunL _ _ _ [_] _ _
      refine RunL.still rfl rfl rfl (Still.neqAgg rfl rfl rfl Tryz.eqGuardType35 (fun _ => eqT _ _ _ _)) ?_
      refine RunL.nil ?_
      refine Ends.then ?_
      refine RunC.cond rfl (fun h30 => ?_) (fun h30 => ?_)
      · have h30 : ¬ x = y := by simpa using h30
        refine RunC.seq ?_
        refine RunC.region ?_
        refine RunL.still rfl rfl rfl (Still.assign rfl rfl) ?_
        refine RunL.nil ?_
        refine Ends.then ?_
        refine RunC.ret ?_
        refine Ends.block_ret ?_
        refine Ends.then_ret ?_
        refine Ends.then_ret ?_
        refine Ends.block_ret ?_
        refine Ends.then_ret ?_
        refine Ends.leave (.inl rfl) (fun _ _ ok => results1 Tryz.results20 (Holds.tmp rfl) ok) (fun w2 hs => ?_)
        exact Ret.intro () trivial (congrArg Value.bool (decide_eq_false (fun e => h30 (by subst e; rw [hx] at hy; exact Option.some.inj hy))).symm) (HSub.nil _) hs
      · have h30 : x = y := by simpa using h30
        refine RunC.skip ?_
        refine Ends.block ?_
        refine Ends.then ?_
        refine RunC.region ?_
        refine RunL.still rfl rfl rfl (Still.move rfl rfl) ?_
        refine RunL.still rfl rfl rfl (Still.add rfl rfl rfl (fits64 (by omega) (by omega))) ?_
        refine RunL.still rfl rfl rfl (Still.assign rfl rfl) ?_
        refine RunL.nil ?_
        obtain rfl : x = y := h30
        refine Ends.again (i + 1) ?_ ?_ (Fr.Sub.app ?_ ?_) ?_
        · exact ⟨by omega, take_eq_succ htk hx hy⟩
        · show _ < _; omega
        · exact Fr.Sub.cons rfl (Fr.Sub.nil _)
        · exact Fr.Sub.cons rfl (Fr.Sub.cons rfl (Fr.Sub.nil _))
        · exact HSub.pick 0 rfl (HSub.pick 0 rfl (HSub.nil _))
    · have h17 := of_decide_eq_false h17
      obtain rfl : i = a.length := by omega
      refine RunC.exit ?_
      refine Ends.then_exit ?_
      refine Ends.then_exit ?_
      refine Ends.block_exit ?_
      refine Ends.then ?_
      refine RunC.seq ?_
      refine RunC.region ?_
      refine RunL.still rfl rfl rfl (Still.assign rfl rfl) ?_
      refine RunL.nil ?_
      refine Ends.then ?_
      refine RunC.ret ?_
      refine Ends.leave (.inl rfl) (fun _ _ ok => results1 Tryz.results20 (Holds.tmp rfl) ok) (fun w3 hs => ?_)
      exact Ret.intro () trivial (congrArg Value.bool (decide_eq_true (take_eq_all htk hl)).symm) (HSub.nil _) hs

theorem gl_Same (ba : Option Addr) (A : Addr) (ca : Nat) (a : Glu) (bb : Option Addr) (B : Addr) (cb : Nat) (b : Glu) (w : World) (hga : GluAt w ba A a) (hgb : GluAt w bb B b) : Gives Tryz.prog 27 #[gluV ba ca a, gluV bb cb b] w Nil (fun _ : Unit => True) (fun _ => .bool (decide (a = b))) (fun _ => []) := by
  refine fn_of_run (S := Nil) (args := [gluV ba ca a, gluV bb cb b]) (n := 10) (L := []) Tryz.func27 rfl Tryz.ntmps27 (Nat.le_of_ble_eq_true rfl) (Sym.nil _ _) ?_
  change RunC _ _ _ [(0, _), (1, _)] _
  refine RunC.seq ?_
  refine RunC.region ?_
  refine RunL.grows rfl rfl rfl (Grows.box rfl rfl) (fun b2 _ => ?_)
  refine RunL.grows rfl rfl rfl (Grows.box rfl rfl) (fun b3 _ => ?_)
  refine RunL.still rfl rfl rfl (Still.assign rfl rfl) ?_
  refine RunL.nil ?_
  refine Ends.then ?_
  refine RunC.seq ?_
  refine RunC.region ?_
  refine RunL.still rfl rfl rfl (Still.fieldAddrL (off := 0) (off' := 0) rfl rfl Tryz.underlying24 rfl Tryz.sizeOf22 rfl) ?_
  refine RunL.still rfl rfl rfl (Still.load rfl rfl Tryz.isAgg22 (fun _ hs => cell_nth (hs.at (i := 1) rfl) rfl)) ?_
  refine RunL.still rfl rfl rfl (Still.fieldAddrL (off := 0) (off' := 0) rfl rfl Tryz.underlying24 rfl Tryz.sizeOf22 rfl) ?_
  refine RunL.still rfl rfl rfl (Still.load rfl rfl Tryz.isAgg22 (fun _ hs => cell_nth (hs.at (i := 0) rfl) rfl)) ?_
  refine RunL.grows rfl rfl rfl (Grows.call (vs := #[_, _]) rfl rfl Tryz.call60 (fun w hs => gl_Equal ba A ca a bb B cb b w (hga.sym hs) (hgb.sym hs))) (fun _ _ => ?_)
  refine RunL.still rfl rfl rfl (Still.assign rfl rfl) ?_
  refine RunL.nil ?_
  refine Ends.then ?_
  refine RunC.ret ?_
  refine Ends.leave (.inl rfl) (fun _ _ ok => results1 Tryz.results27 (Holds.tmp rfl) ok) (fun w1 hs => ?_)
  exact Ret.intro () trivial rfl (HSub.nil _) hs

theorem rf_SameInts (v u : Value) (xs ys : List Int) (w : World) (hv : Shape v xs.length) (hc : Cells w (vaddr v) (ints xs)) (hl : xs.length ≤ 9223372036854775807) (hu : Shape u ys.length) (hd : Cells w (vaddr u) (ints ys)) (hl2 : ys.length ≤ 9223372036854775807) : Gives Tryz.prog 31 #[v, u] w Nil (fun _ : Unit => True) (fun _ => .bool (decide (xs = ys))) (fun _ => []) := by
  refine fn_of_run (S := Nil) (args := [v, u]) (n := 26) (L := []) Tryz.func31 rfl Tryz.ntmps31 (Nat.le_of_ble_eq_true rfl) (Sym.nil _ _) ?_
  change RunC _ _ _ [(0, _), (1, _)] _
  refine RunC.seq ?_
  refine RunC.region ?_
  refine RunL.still rfl rfl rfl (Still.assign rfl rfl) ?_
  refine RunL.nil ?_
  refine Ends.then ?_
  refine RunC.seq ?_
  refine RunC.seq ?_
  refine RunC.region ?_
  refine RunL.still rfl rfl rfl (Still.move rfl rfl) ?_
  refine RunL.still rfl rfl rfl (Still.lenV rfl rfl Tryz.underlying36 (hv)) ?_
  refine RunL.still rfl rfl rfl (Still.move rfl rfl) ?_
  refine RunL.still rfl rfl rfl (Still.lenV rfl rfl Tryz.underlying36 (hu)) ?_
  refine RunL.still rfl rfl rfl (Still.neq rfl rfl rfl) ?_
  refine RunL.nil ?_
  refine Ends.then ?_
  refine RunC.cond rfl (fun h10 => ?_) (fun h10 => ?_)
  · have h10 := of_decide_eq_true h10
    refine RunC.seq ?_
    refine RunC.region ?_
    refine RunL.still rfl rfl rfl (Still.assign rfl rfl) ?_
    refine RunL.nil ?_
    refine Ends.then ?_
    refine RunC.ret ?_
    refine Ends.then_ret ?_
    refine Ends.leave (.inl rfl) (fun _ _ ok => results1 Tryz.results31 (Holds.tmp rfl) ok) (fun w1 hs => ?_)
    exact Ret.intro () trivial (congrArg Value.bool (decide_eq_false (fun e => h10 (by rw [e]))).symm) (HSub.nil _) hs
  · have h10 := of_decide_eq_false h10
    have hl : xs.length = ys.length := by omega
    refine RunC.skip ?_
    refine Ends.then ?_
    refine RunC.seq ?_
    refine RunC.seq ?_
    refine RunC.region ?_
    refine RunL.still rfl rfl rfl (Still.assign rfl rfl) ?_
    refine RunL.nil ?_
    refine Ends.then ?_
    refine RunC.block ?_
    refine RunC.loop2 (γ := Nat) (keep := [(0, _), (1, _)]) (hkeep := []) (fun i => i ≤ xs.length ∧ xs.take i = ys.take i) (fun i => xs.length - i) (fun i => [(5, iv i)]) (fun i => []) 0 ⟨by omega, rfl⟩ (Fr.Sub.cons rfl (Fr.Sub.nil _)) (Fr.Sub.cons rfl (Fr.Sub.cons rfl (Fr.Sub.nil _))) (HSub.nil _) ?_
    rintro i ⟨hi, htk⟩
    refine RunC.seq ?_
    refine RunC.seq ?_
    refine RunC.region ?_
    refine RunL.still rfl rfl rfl (Still.move rfl rfl) ?_
    refine RunL.still rfl rfl rfl (Still.move rfl rfl) ?_
    refine RunL.still rfl rfl rfl (Still.lenV rfl rfl Tryz.underlying36 (hv)) ?_
    refine RunL.still rfl rfl rfl (Still.lss rfl rfl rfl) ?_
    refine RunL.nil ?_
    refine Ends.then ?_
    refine RunC.cond rfl (fun h14 => ?_) (fun h14 => ?_)
    · have h14 := of_decide_eq_true h14
      obtain ⟨x, hx⟩ := get_of_lt (l := xs) (i := i) (by omega)
      obtain ⟨y, hy⟩ := get_of_lt (l := ys) (i := i) (by omega)
      refine RunC.skip ?_
      refine Ends.then ?_
      refine RunC.seq ?_
      refine RunC.block ?_
      refine RunC.seq ?_
      refine RunC.draw 8 (.still 0 (.still 1 (.still 2 (.still 3 (.still 4 (.still 5 (.still 6 (.still 7 .done)))))))) (by kernel_rfl) (by kernel_rfl) ?_
      refine RunG.still rfl rfl rfl rfl (Still.move rfl rfl) ?_
      refine RunG.still rfl rfl rfl rfl (Still.move rfl rfl) ?_
      refine RunG.still rfl rfl rfl rfl (Still.indexV _ rfl rfl rfl Tryz.underlying36 Tryz.sizeOf3 (hv) (rfl) (by omega)) ?_
      refine RunG.still rfl rfl rfl rfl (Still.load rfl rfl Tryz.isAgg3 (fun _ hs => cells_at (Cells.base0 hc hs) (ints_get hx))) ?_
      refine RunG.still rfl rfl rfl rfl (Still.move rfl rfl) ?_
      refine RunG.still rfl rfl rfl rfl (Still.move rfl rfl) ?_
      refine RunG.still rfl rfl rfl rfl (Still.indexV _ rfl rfl rfl Tryz.underlying36 Tryz.sizeOf3 (hu) (rfl) (by omega)) ?_
      refine RunG.still rfl rfl rfl rfl (Still.load rfl rfl Tryz.isAgg3 (fun _ hs => cells_at (Cells.base0 hd hs) (ints_get hy))) ?_
      refine RunG.done ?_
      show RunL _ _ _ [_] _ _
      refine RunL.still rfl rfl rfl (Still.neq rfl rfl rfl) ?_
      refine RunL.nil ?_
      refine Ends.then ?_
      refine RunC.cond rfl (fun h25 => ?_) (fun h25 => ?_)
      · have h25 := of_decide_eq_true h25
        refine RunC.seq ?_
        refine RunC.region ?_
        refine RunL.still rfl rfl rfl (Still.assign rfl rfl) ?_
        refine RunL.nil ?_
        refine Ends.then ?_
        refine RunC.ret ?_
        refine Ends.block_ret ?_
        refine Ends.then_ret ?_
        refine Ends.then_ret ?_
        refine Ends.block_ret ?_
        refine Ends.then_ret ?_
        refine Ends.leave (.inl rfl) (fun _ _ ok => results1 Tryz.results31 (Holds.tmp rfl) ok) (fun w2 hs => ?_)
        exact Ret.intro () trivial (congrArg Value.bool (decide_eq_false (fun e => h25 (by subst e; rw [hx] at hy; exact Option.some.inj hy))).symm) (HSub.nil _) hs
      · have h25 := of_decide_eq_false h25
        refine RunC.skip ?_
        refine Ends.block ?_
        refine Ends.then ?_
        refine RunC.region ?_
        refine RunL.still rfl rfl rfl (Still.move rfl rfl) ?_
        refine RunL.still rfl rfl rfl (Still.add rfl rfl rfl (fits64 (by omega) (by omega))) ?_
        refine RunL.still rfl rfl rfl (Still.assign rfl rfl) ?_
        refine RunL.nil ?_
        obtain rfl : x = y := Decidable.not_not.1 h25
        refine Ends.again (i + 1) ?_ ?_ (Fr.Sub.app ?_ ?_) ?_
        · exact ⟨by omega, take_eq_succ htk hx hy⟩
        · show _ < _; omega
        · exact Fr.Sub.cons rfl (Fr.Sub.nil _)
        · exact Fr.Sub.cons rfl (Fr.Sub.cons rfl (Fr.Sub.nil _))
        · exact HSub.nil _
    · have h14 := of_decide_eq_false h14
      obtain rfl : i = xs.length := by omega
      refine RunC.exit ?_
      refine Ends.then_exit ?_
      refine Ends.then_exit ?_
      refine Ends.block_exit ?_
      refine Ends.then ?_
      refine RunC.seq ?_
      refine RunC.region ?_
      refine RunL.still rfl rfl rfl (Still.assign rfl rfl) ?_
      refine RunL.nil ?_
      refine Ends.then ?_
      refine RunC.ret ?_
      refine Ends.leave (.inl rfl) (fun _ _ ok => results1 Tryz.results31 (Holds.tmp rfl) ok) (fun w3 hs => ?_)
      exact Ret.intro () trivial (congrArg Value.bool (decide_eq_true (take_eq_all htk hl)).symm) (HSub.nil _) hs

/-- How many parts a list of numbers names. -/
def cntTo (xs : List Int) : Nat → Int
  | 0 => 0
  | i + 1 => max (cntTo xs i) (xs.getD i 0 + 1)
theorem cntTo_succ {xs : List Int} {i : Nat} {y : Int} (h : xs[i]? = some y) : cntTo xs (i + 1) = max (cntTo xs i) (y + 1) := by rw [cntTo, List.getD_eq_getElem?_getD, h]; rfl

theorem lw_count (v : Value) (xs : List Int) (w : World) (hv : Shape v xs.length) (hc : Cells w (vaddr v) (ints xs)) (hl : xs.length ≤ 9223372036854775807) (hb : ∀ x ∈ xs, 0 ≤ x ∧ x ≤ 2000) : Gives Tryz.prog 17 #[v] w Nil (fun _ : Unit => True) (fun _ => iv (cntTo xs xs.length)) (fun _ => []) := by
  refine fn_of_run (S := Nil) (args := [v]) (n := 19) (L := []) Tryz.func17 rfl Tryz.ntmps17 (Nat.le_of_ble_eq_true rfl) (Sym.nil _ _) ?_
  change RunC _ _ _ [(0, _)] _
  refine RunC.seq ?_
  refine RunC.region ?_
  refine RunL.still rfl rfl rfl (Still.assign rfl rfl) ?_
  refine RunL.nil ?_
  refine Ends.then ?_
  refine RunC.seq ?_
  refine RunC.region ?_
  refine RunL.still rfl rfl rfl (Still.assign rfl rfl) ?_
  refine RunL.nil ?_
  refine Ends.then ?_
  refine RunC.seq ?_
  refine RunC.seq ?_
  refine RunC.region ?_
  refine RunL.still rfl rfl rfl (Still.assign rfl rfl) ?_
  refine RunL.nil ?_
  refine Ends.then ?_
  refine RunC.block ?_
  refine RunC.loop2 (γ := Nat) (keep := [(0, _)]) (hkeep := []) (fun i => i ≤ xs.length) (fun i => xs.length - i) (fun i => [(3, iv (cntTo xs i)), (4, iv i)]) (fun i => []) 0 (by omega) (Fr.Sub.cons rfl (Fr.Sub.cons rfl (Fr.Sub.nil _))) (Fr.Sub.cons rfl (Fr.Sub.nil _)) (HSub.nil _) ?_
  rintro i hi
  refine RunC.seq ?_
  refine RunC.seq ?_
  refine RunC.region ?_
  refine RunL.still rfl rfl rfl (Still.move rfl rfl) ?_
  refine RunL.still rfl rfl rfl (Still.move rfl rfl) ?_
  refine RunL.still rfl rfl rfl (Still.lenV rfl rfl Tryz.underlying36 (hv)) ?_
  refine RunL.still rfl rfl rfl (Still.lss rfl rfl rfl) ?_
  refine RunL.nil ?_
  refine Ends.then ?_
  refine RunC.cond rfl (fun h8 => ?_) (fun h8 => ?_)
  · have h8 := of_decide_eq_true h8
    obtain ⟨y, hy⟩ := get_of_lt (l := xs) (i := i) (by omega)
    have hyb := hb y (List.mem_of_getElem? hy)
    refine RunC.skip ?_
    refine Ends.then ?_
    refine RunC.seq ?_
    refine RunC.block ?_
    refine RunC.region ?_
    refine RunL.still rfl rfl rfl (Still.move rfl rfl) ?_
    refine RunL.still rfl rfl rfl (Still.move rfl rfl) ?_
    refine RunL.still rfl rfl rfl (Still.move rfl rfl) ?_
    refine RunL.still rfl rfl rfl (Still.indexV _ rfl rfl rfl Tryz.underlying36 Tryz.sizeOf3 (hv) (rfl) (by omega)) ?_
    refine RunL.still rfl rfl rfl (Still.load rfl rfl Tryz.isAgg3 (fun _ hs => cells_at (Cells.base0 hc hs) (ints_get hy))) ?_
    refine RunL.still rfl rfl rfl (Still.add rfl rfl rfl (fits64 (by omega) (by omega))) ?_
    refine RunL.still rfl rfl rfl (Still.max rfl rfl rfl) ?_
    refine RunL.still rfl rfl rfl (Still.assign rfl rfl) ?_
    refine RunL.nil ?_
    refine Ends.block ?_
    refine Ends.then ?_
    refine RunC.region ?_
    refine RunL.still rfl rfl rfl (Still.move rfl rfl) ?_
    refine RunL.still rfl rfl rfl (Still.add rfl rfl rfl (fits64 (by omega) (by omega))) ?_
    refine RunL.still rfl rfl rfl (Still.assign rfl rfl) ?_
    refine RunL.nil ?_
    refine Ends.again (i + 1) ?_ ?_ (Fr.Sub.app ?_ ?_) ?_
    · show _; omega
    · show _ < _; omega
    · exact Fr.Sub.cons (by rw [cntTo_succ hy]; rfl) (Fr.Sub.cons rfl (Fr.Sub.nil _))
    · exact Fr.Sub.cons rfl (Fr.Sub.nil _)
    · exact HSub.nil _
  · have h8 := of_decide_eq_false h8
    obtain rfl : i = xs.length := by omega
    refine RunC.exit ?_
    refine Ends.then_exit ?_
    refine Ends.then_exit ?_
    refine Ends.block_exit ?_
    refine Ends.then ?_
    refine RunC.seq ?_
    refine RunC.region ?_
    refine RunL.still rfl rfl rfl (Still.move rfl rfl) ?_
    refine RunL.still rfl rfl rfl (Still.assign rfl rfl) ?_
    refine RunL.nil ?_
    refine Ends.then ?_
    refine RunC.ret ?_
    refine Ends.leave (.inl rfl) (fun _ _ ok => results1 Tryz.results17 (Holds.tmp rfl) ok) (fun w1 hs => ?_)
    exact Ret.intro () trivial rfl (HSub.nil _) hs

theorem lw_small (b : Nat) (ns : List Nat) (vs : List Value) (w : World) (hc : Cells w ⟨b, 0, none⟩ vs) (hl : vs.length = ns.length) (hn : ∀ (i : Nat) n, ns[i]? = some n → ∃ base cap, vs[i]? = some (.slice base n cap)) (h2 : ns.length ≤ 4) : Gives Tryz.prog 10 #[.slice (some ⟨b, 0, none⟩) ns.length ns.length] w Nil (fun _ : Unit => True) (fun _ => .bool (ns.all fun n => decide (n ≤ 12))) (fun _ => []) := by
  refine fn_of_run (S := Nil) (args := [.slice (some ⟨b, 0, none⟩) ns.length ns.length]) (n := 17) (L := []) Tryz.func10 rfl Tryz.ntmps10 (Nat.le_of_ble_eq_true rfl) (Sym.nil _ _) ?_
  change RunC _ _ _ [(0, _)] _
  refine RunC.seq ?_
  refine RunC.region ?_
  refine RunL.still rfl rfl rfl (Still.assign rfl rfl) ?_
  refine RunL.nil ?_
  refine Ends.then ?_
  refine RunC.seq ?_
  refine RunC.seq ?_
  refine RunC.region ?_
  refine RunL.still rfl rfl rfl (Still.assign rfl rfl) ?_
  refine RunL.nil ?_
  refine Ends.then ?_
  refine RunC.block ?_
  refine RunC.loop2 (γ := Nat) (keep := [(0, _)]) (hkeep := []) (fun i => i ≤ ns.length ∧ (ns.take i).all (fun n => decide (n ≤ 12)) = true) (fun i => ns.length - i) (fun i => [(3, iv i)]) (fun i => []) 0 ⟨by omega, rfl⟩ (Fr.Sub.cons rfl (Fr.Sub.nil _)) (Fr.Sub.cons rfl (Fr.Sub.nil _)) (HSub.nil _) ?_
  rintro i ⟨hi, hall⟩
  refine RunC.seq ?_
  refine RunC.seq ?_
  refine RunC.region ?_
  refine RunL.still rfl rfl rfl (Still.move rfl rfl) ?_
  refine RunL.still rfl rfl rfl (Still.move rfl rfl) ?_
  refine RunL.still rfl rfl rfl (Still.lenSlice rfl rfl Tryz.underlying63) ?_
  refine RunL.still rfl rfl rfl (Still.lss rfl rfl rfl) ?_
  refine RunL.nil ?_
  refine Ends.then ?_
  refine RunC.cond rfl (fun h7 => ?_) (fun h7 => ?_)
  · have h7 := of_decide_eq_true h7
    obtain ⟨n, hx⟩ := get_of_lt (l := ns) (i := i) (by omega)
    obtain ⟨gb, gc, hv⟩ := hn i n hx
    refine RunC.skip ?_
    refine Ends.then ?_
    refine RunC.seq ?_
    refine RunC.block ?_
    refine RunC.seq ?_
    refine RunC.region ?_
    refine RunL.still rfl rfl rfl (Still.move rfl rfl) ?_
    refine RunL.still rfl rfl rfl (Still.move rfl rfl) ?_
    refine RunL.still rfl rfl rfl (Still.indexSliceN rfl rfl rfl Tryz.underlying63 Tryz.sizeOf24 (rfl) (by omega)) ?_
    refine RunL.still rfl rfl rfl (Still.fieldAddrA (off := 0) rfl rfl Tryz.underlying24 rfl Tryz.sizeOf22 rfl) ?_
    refine RunL.still rfl rfl rfl (Still.load (v := .slice gb n gc) rfl rfl Tryz.isAgg22 (fun w' hs => by have h := (Cells.base0 hc hs) i _ hv; rw [add_add]; simpa using h)) ?_
    refine RunL.still rfl rfl rfl (Still.lenSlice rfl rfl Tryz.underlying22) ?_
    refine RunL.still rfl rfl rfl (Still.gtr rfl rfl rfl) ?_
    refine RunL.nil ?_
    refine Ends.then ?_
    refine RunC.cond rfl (fun h16 => ?_) (fun h16 => ?_)
    · have h16 := of_decide_eq_true h16
      refine RunC.seq ?_
      refine RunC.region ?_
      refine RunL.still rfl rfl rfl (Still.assign rfl rfl) ?_
      refine RunL.nil ?_
      refine Ends.then ?_
      refine RunC.ret ?_
      refine Ends.block_ret ?_
      refine Ends.then_ret ?_
      refine Ends.then_ret ?_
      refine Ends.block_ret ?_
      refine Ends.then_ret ?_
      refine Ends.leave (.inl rfl) (fun _ _ ok => results1 Tryz.results10 (Holds.tmp rfl) ok) (fun w1 hs => ?_)
      exact Ret.intro () trivial (congrArg Value.bool (by rw [List.all_eq_false.2 ⟨n, List.mem_of_getElem? hx, by simp; omega⟩])) (HSub.nil _) hs
    · have h16 := of_decide_eq_false h16
      refine RunC.skip ?_
      refine Ends.block ?_
      refine Ends.then ?_
      refine RunC.region ?_
      refine RunL.still rfl rfl rfl (Still.move rfl rfl) ?_
      refine RunL.still rfl rfl rfl (Still.add rfl rfl rfl (fits64 (by omega) (by omega))) ?_
      refine RunL.still rfl rfl rfl (Still.assign rfl rfl) ?_
      refine RunL.nil ?_
      refine Ends.again (i + 1) ?_ ?_ (Fr.Sub.app ?_ ?_) ?_
      · exact ⟨by omega, by rw [List.take_add_one, hx, List.all_append, hall]; simp; omega⟩
      · show _ < _; omega
      · exact Fr.Sub.cons rfl (Fr.Sub.nil _)
      · exact Fr.Sub.cons rfl (Fr.Sub.nil _)
      · exact HSub.nil _
  · have h7 := of_decide_eq_false h7
    obtain rfl : i = ns.length := by omega
    refine RunC.exit ?_
    refine Ends.then_exit ?_
    refine Ends.then_exit ?_
    refine Ends.block_exit ?_
    refine Ends.then ?_
    refine RunC.seq ?_
    refine RunC.region ?_
    refine RunL.still rfl rfl rfl (Still.assign rfl rfl) ?_
    refine RunL.nil ?_
    refine Ends.then ?_
    refine RunC.ret ?_
    refine Ends.leave (.inl rfl) (fun _ _ ok => results1 Tryz.results10 (Holds.tmp rfl) ok) (fun w2 hs => ?_)
    exact Ret.intro () trivial (congrArg Value.bool (by rw [List.take_length] at hall; exact hall.symm)) (HSub.nil _) hs

end Go.Proofs
/- Renumbered gluings: contracts of both texts. -/
namespace Go.Proofs
open Go Go.V
set_option maxRecDepth 20000
theorem rf_IsOrder (xb : Option Addr) (XA : Addr) (xc : Nat) (xs : List Int) (pb : Option Addr) (PA : Addr) (pc : Nat) (ps : List P4) (n : Nat) (w : World) (hx : LisAt w xb XA xs) (hp : PermsAt w pb PA ps) (hn : n ≤ 1000) : Gives Tryz.prog 36 #[lisV xb xc xs, prmV pb pc ps, iv (n : Int)] w Nil (fun _ : Unit => True) (fun _ => .bool (ordG xs ps n)) (fun _ => []) := by
  have hle := hx.len
  have hpl := hp.len
  refine fn_of_run (S := Nil) (args := [lisV xb xc xs, prmV pb pc ps, iv (n : Int)]) (n := 62) (L := []) Tryz.func36 rfl Tryz.ntmps36 (Nat.le_of_ble_eq_true rfl) (Sym.nil _ _) ?_
  change RunC _ _ _ [(0, _), (1, _), (2, _)] _
  refine RunC.seq ?_
  refine RunC.region ?_
  refine RunL.still rfl rfl rfl (Still.assign rfl rfl) ?_
  refine RunL.nil ?_
  refine Ends.then ?_
  refine RunC.seq ?_
  refine RunC.seq ?_
  refine RunC.region ?_
  refine RunL.still rfl rfl rfl (Still.move rfl rfl) ?_
  refine RunL.still rfl rfl rfl (Still.lenV rfl rfl Tryz.underlying36 (hx.shape)) ?_
  refine RunL.still rfl rfl rfl (Still.move rfl rfl) ?_
  refine RunL.still rfl rfl rfl (Still.neq rfl rfl rfl) ?_
  refine RunL.still rfl rfl rfl (Still.move rfl rfl) ?_
  refine RunL.split (t := 13) rfl (fun h13 => ?_) (fun h13 => ?_)
  · have h13 := of_decide_eq_true h13
    refine RunL.off rfl rfl rfl ?_
    refine RunL.off rfl rfl rfl ?_
    refine RunL.off rfl rfl rfl ?_
    refine RunL.off rfl rfl rfl ?_
    refine RunL.still rfl rfl rfl (Still.pickT rfl rfl rfl) ?_
    refine RunL.nil ?_
    refine Ends.then ?_
    refine RunC.cond_true rfl ?_
    refine RunC.seq ?_
    refine RunC.region ?_
    refine RunL.still rfl rfl rfl (Still.assign rfl rfl) ?_
    refine RunL.nil ?_
    refine Ends.then ?_
    refine RunC.ret ?_
    refine Ends.then_ret ?_
    refine Ends.leave (.inl rfl) (fun _ _ ok => results1 Tryz.results36 (Holds.tmp rfl) ok) (fun w1 hs => ?_)
    exact Ret.intro () trivial (congrArg Value.bool (ordG_bad (.inl (by omega))).symm) (HSub.nil _) hs
  · have h13 := of_decide_eq_false h13
    have hxl : xs.length = n := by omega
    refine RunL.still rfl rfl rfl (Still.move rfl rfl) ?_
    refine RunL.still rfl rfl rfl (Still.lenSlice rfl rfl Tryz.underlying43) ?_
    refine RunL.still rfl rfl rfl (Still.move rfl rfl) ?_
    refine RunL.still rfl rfl rfl (Still.neq rfl rfl rfl) ?_
    refine RunL.still rfl rfl rfl (Still.pickF rfl rfl rfl) ?_
    refine RunL.nil ?_
    refine Ends.then ?_
    refine RunC.cond rfl (fun h18 => ?_) (fun h18 => ?_)
    · have h18 := of_decide_eq_true h18
      refine RunC.seq ?_
      refine RunC.region ?_
      refine RunL.still rfl rfl rfl (Still.assign rfl rfl) ?_
      refine RunL.nil ?_
      refine Ends.then ?_
      refine RunC.ret ?_
      refine Ends.then_ret ?_
      refine Ends.leave (.inl rfl) (fun _ _ ok => results1 Tryz.results36 (Holds.tmp rfl) ok) (fun w2 hs => ?_)
      exact Ret.intro () trivial (congrArg Value.bool (ordG_bad (.inr (.inl (by omega)))).symm) (HSub.nil _) hs
    · have h18 := of_decide_eq_false h18
      have hpsl : ps.length = n := by omega
      refine RunC.skip ?_
      refine Ends.then ?_
      refine RunC.seq ?_
      refine RunC.region ?_
      refine RunL.still rfl rfl rfl (Still.move rfl rfl) ?_
      refine RunL.grows rfl rfl rfl (Grows.make (n := n) (xs := (bools (List.replicate n false))) rfl rfl rfl Tryz.underlying71 (by kernel_rfl : (_ : Option _) = some (some (.bool false), 1, 1)) rfl (by omega) (by omega) (zeros_one _ _ |>.trans (bools_replicate _ _))) (fun b20 _ => ?_)
      refine RunL.still rfl rfl rfl (Still.assign rfl rfl) ?_
      refine RunL.nil ?_
      refine Ends.then ?_
      refine RunC.seq ?_
      refine RunC.seq ?_
      refine RunC.region ?_
      refine RunL.still rfl rfl rfl (Still.assign rfl rfl) ?_
      refine RunL.nil ?_
      refine Ends.then ?_
      refine RunC.block ?_
      refine RunC.loop2 (γ := Nat) (keep := [(0, _), (1, _), (2, _), (7, _)]) (hkeep := []) (fun i => i ≤ n ∧ ordTo xs n i = true ∧ (ps.take i).all okP = true) (fun i => n - i) (fun i => [(8, iv i)]) (fun i => [HL.own 4 1 (.slice (some ⟨b20, 0, none⟩) n n) n (bools (mtTo xs n i))]) 0 ⟨by omega, rfl, rfl⟩ (Fr.Sub.cons rfl (Fr.Sub.nil _)) (Fr.Sub.cons rfl (Fr.Sub.cons rfl (Fr.Sub.cons rfl (Fr.Sub.cons rfl (Fr.Sub.nil _))))) (HSub.pick 0 rfl (HSub.nil _)) ?_
      rintro i ⟨hi, hord, hall⟩
      refine RunC.seq ?_
      refine RunC.seq ?_
      refine RunC.region ?_
      refine RunL.still rfl rfl rfl (Still.move rfl rfl) ?_
      refine RunL.still rfl rfl rfl (Still.move rfl rfl) ?_
      refine RunL.still rfl rfl rfl (Still.lss rfl rfl rfl) ?_
      refine RunL.nil ?_
      refine Ends.then ?_
      refine RunC.cond rfl (fun h23 => ?_) (fun h23 => ?_)
      · have h23 := of_decide_eq_true h23
        obtain ⟨y, hy⟩ := get_of_lt (l := xs) (i := i) (by omega)
        obtain ⟨p, hpi⟩ := get_of_lt (l := ps) (i := i) (by omega)
        refine RunC.skip ?_
        refine Ends.then ?_
        refine RunC.seq ?_
        refine RunC.block ?_
        refine RunC.seq ?_
        refine RunC.seq ?_
        refine RunC.region ?_
        refine RunL.still rfl rfl rfl (Still.move rfl rfl) ?_
        refine RunL.still rfl rfl rfl (Still.move rfl rfl) ?_
        refine RunL.still rfl rfl rfl (Still.indexV _ rfl rfl rfl Tryz.underlying36 Tryz.sizeOf3 (hx.shape) (rfl) (by omega)) ?_
        refine RunL.still rfl rfl rfl (Still.load rfl rfl Tryz.isAgg3 (fun _ hs => cells_at (Cells.base0 (hx.cells _) hs) (ints_get hy))) ?_
        refine RunL.still rfl rfl rfl (Still.lss rfl rfl rfl) ?_
        refine RunL.still rfl rfl rfl (Still.move rfl rfl) ?_
        refine RunL.split (t := 31) rfl (fun h31 => ?_) (fun h31 => ?_)
        · have h31 := of_decide_eq_true h31
          refine RunL.off rfl rfl rfl ?_
          refine RunL.off rfl rfl rfl ?_
          refine RunL.off rfl rfl rfl ?_
          refine RunL.off rfl rfl rfl ?_
          refine RunL.off rfl rfl rfl ?_
          refine RunL.off rfl rfl rfl ?_
          refine RunL.still rfl rfl rfl (Still.pickT rfl rfl rfl) ?_
          refine RunL.still rfl rfl rfl (Still.move rfl rfl) ?_
          refine RunL.off rfl rfl rfl ?_
          refine RunL.off rfl rfl rfl ?_
          refine RunL.off rfl rfl rfl ?_
          refine RunL.off rfl rfl rfl ?_
          refine RunL.off rfl rfl rfl ?_
          refine RunL.off rfl rfl rfl ?_
          refine RunL.off rfl rfl rfl ?_
          refine RunL.still rfl rfl rfl (Still.pickT rfl rfl rfl) ?_
          refine RunL.still rfl rfl rfl (Still.move rfl rfl) ?_
          refine RunL.off rfl rfl rfl ?_
          refine RunL.off rfl rfl rfl ?_
          refine RunL.off rfl rfl rfl ?_
          refine RunL.off rfl rfl rfl ?_
          refine RunL.off rfl rfl rfl ?_
          refine RunL.off rfl rfl rfl ?_
          refine RunL.still rfl rfl rfl (Still.pickT rfl rfl rfl) ?_
          refine RunL.nil ?_
          refine Ends.then ?_
          refine RunC.cond_true rfl ?_
          refine RunC.seq ?_
          refine RunC.region ?_
          refine RunL.still rfl rfl rfl (Still.assign rfl rfl) ?_
          refine RunL.nil ?_
          refine Ends.then ?_
          refine RunC.ret ?_
          refine Ends.then_ret ?_
          refine Ends.block_ret ?_
          refine Ends.then_ret ?_
          refine Ends.then_ret ?_
          refine Ends.block_ret ?_
          refine Ends.then_ret ?_
          refine Ends.leave (.inl rfl) (fun _ _ ok => results1 Tryz.results36 (Holds.tmp rfl) ok) (fun w3 hs => ?_)
          exact Ret.intro () trivial (congrArg Value.bool (ordG_bad (.inr (.inr (.inl (ordTo_bad (by omega) hy (.inl h31)))))).symm) (HSub.nil _) hs
        · have h31 := of_decide_eq_false h31
          refine RunL.still rfl rfl rfl (Still.move rfl rfl) ?_
          refine RunL.still rfl rfl rfl (Still.move rfl rfl) ?_
          refine RunL.still rfl rfl rfl (Still.indexV _ rfl rfl rfl Tryz.underlying36 Tryz.sizeOf3 (hx.shape) (rfl) (by omega)) ?_
          refine RunL.still rfl rfl rfl (Still.load rfl rfl Tryz.isAgg3 (fun _ hs => cells_at (Cells.base0 (hx.cells _) hs) (ints_get hy))) ?_
          refine RunL.still rfl rfl rfl (Still.move rfl rfl) ?_
          refine RunL.still rfl rfl rfl (Still.geq rfl rfl rfl) ?_
          refine RunL.still rfl rfl rfl (Still.pickF rfl rfl rfl) ?_
          refine RunL.still rfl rfl rfl (Still.move rfl rfl) ?_
          refine RunL.split (t := 39) rfl (fun h39 => ?_) (fun h39 => ?_)
          · have h39 := of_decide_eq_true h39
            refine RunL.off rfl rfl rfl ?_
            refine RunL.off rfl rfl rfl ?_
            refine RunL.off rfl rfl rfl ?_
            refine RunL.off rfl rfl rfl ?_
            refine RunL.off rfl rfl rfl ?_
            refine RunL.off rfl rfl rfl ?_
            refine RunL.off rfl rfl rfl ?_
            refine RunL.still rfl rfl rfl (Still.pickT rfl rfl rfl) ?_
            refine RunL.still rfl rfl rfl (Still.move rfl rfl) ?_
            refine RunL.off rfl rfl rfl ?_
            refine RunL.off rfl rfl rfl ?_
            refine RunL.off rfl rfl rfl ?_
            refine RunL.off rfl rfl rfl ?_
            refine RunL.off rfl rfl rfl ?_
            refine RunL.off rfl rfl rfl ?_
            refine RunL.still rfl rfl rfl (Still.pickT rfl rfl rfl) ?_
            refine RunL.nil ?_
            refine Ends.then ?_
            refine RunC.cond_true rfl ?_
            refine RunC.seq ?_
            refine RunC.region ?_
            refine RunL.still rfl rfl rfl (Still.assign rfl rfl) ?_
            refine RunL.nil ?_
            refine Ends.then ?_
            refine RunC.ret ?_
            refine Ends.then_ret ?_
            refine Ends.block_ret ?_
            refine Ends.then_ret ?_
            refine Ends.then_ret ?_
            refine Ends.block_ret ?_
            refine Ends.then_ret ?_
            refine Ends.leave (.inl rfl) (fun _ _ ok => results1 Tryz.results36 (Holds.tmp rfl) ok) (fun w4 hs => ?_)
            exact Ret.intro () trivial (congrArg Value.bool (ordG_bad (.inr (.inr (.inl (ordTo_bad (by omega) hy (.inr (.inl (by omega)))))))).symm) (HSub.nil _) hs
          · have h39 := of_decide_eq_false h39
            refine RunL.still rfl rfl rfl (Still.move rfl rfl) ?_
            refine RunL.still rfl rfl rfl (Still.move rfl rfl) ?_
            refine RunL.still rfl rfl rfl (Still.move rfl rfl) ?_
            refine RunL.still rfl rfl rfl (Still.indexV _ rfl rfl rfl Tryz.underlying36 Tryz.sizeOf3 (hx.shape) (rfl) (by omega)) ?_
            refine RunL.still rfl rfl rfl (Still.load rfl rfl Tryz.isAgg3 (fun _ hs => cells_at (Cells.base0 (hx.cells _) hs) (ints_get hy))) ?_
            refine RunL.still rfl rfl rfl (Still.indexOwnI (m := y.toNat) rfl rfl rfl Tryz.underlying71 Tryz.sizeOf4 (fun _ hs => hs.own (i := 0) rfl) (by omega) (by omega)) ?_
            refine RunL.still rfl rfl rfl (Still.load rfl rfl Tryz.isAgg4 (fun w hs => own_at (hs.own (i := 0) rfl) (bools_get (getD_get (by simp; omega) false)))) ?_
            refine RunL.still rfl rfl rfl (Still.pickF rfl rfl rfl) ?_
            refine RunL.still rfl rfl rfl (Still.move rfl rfl) ?_
            refine RunL.split (t := 48) rfl (fun h48 => ?_) (fun h48 => ?_)
            · skip
              refine RunL.off rfl rfl rfl ?_
              refine RunL.off rfl rfl rfl ?_
              refine RunL.off rfl rfl rfl ?_
              refine RunL.off rfl rfl rfl ?_
              refine RunL.off rfl rfl rfl ?_
              refine RunL.off rfl rfl rfl ?_
              refine RunL.still rfl rfl rfl (Still.pickT rfl rfl rfl) ?_
              refine RunL.nil ?_
              refine Ends.then ?_
              refine RunC.cond_true rfl ?_
              refine RunC.seq ?_
              refine RunC.region ?_
              refine RunL.still rfl rfl rfl (Still.assign rfl rfl) ?_
              refine RunL.nil ?_
              refine Ends.then ?_
              refine RunC.ret ?_
              refine Ends.then_ret ?_
              refine Ends.block_ret ?_
              refine Ends.then_ret ?_
              refine Ends.then_ret ?_
              refine Ends.block_ret ?_
              refine Ends.then_ret ?_
              refine Ends.leave (.inl rfl) (fun _ _ ok => results1 Tryz.results36 (Holds.tmp rfl) ok) (fun w5 hs => ?_)
              exact Ret.intro () trivial (congrArg Value.bool (ordG_bad (.inr (.inr (.inl (ordTo_bad (by omega) hy (.inr (.inr h48))))))).symm) (HSub.nil _) hs
            · skip
              refine RunL.still rfl rfl rfl (Still.move rfl rfl) ?_
              refine RunL.still rfl rfl rfl (Still.move rfl rfl) ?_
              refine RunL.still rfl rfl rfl (Still.indexSliceN rfl rfl rfl Tryz.underlying43 Tryz.sizeOf32 (hp.base (by omega)) (by omega)) ?_
              refine RunL.still rfl rfl rfl (Still.loads rfl rfl Tryz.isAgg32 Tryz.sizeOf32 (vs := [iv p.a0, iv p.a1, iv p.a2, iv p.a3]) rfl (fun _ hs => (hp.sym hs).cell i p hpi)) ?_
              refine RunL.grows rfl rfl rfl (Grows.call (vs := #[_]) rfl rfl Tryz.call44 (fun w hs => rf_Valid p w)) (fun _ _ => ?_)
              refine RunL.still rfl rfl rfl (Still.not rfl rfl) ?_
              refine RunL.still rfl rfl rfl (Still.pickF rfl rfl rfl) ?_
              refine RunL.nil ?_
              refine Ends.then ?_
              refine RunC.cond rfl (fun h55 => ?_) (fun h55 => ?_)
              · have hok : okP p = false := by simpa using h55
                refine RunC.seq ?_
                refine RunC.region ?_
                refine RunL.still rfl rfl rfl (Still.assign rfl rfl) ?_
                refine RunL.nil ?_
                refine Ends.then ?_
                refine RunC.ret ?_
                refine Ends.then_ret ?_
                refine Ends.block_ret ?_
                refine Ends.then_ret ?_
                refine Ends.then_ret ?_
                refine Ends.block_ret ?_
                refine Ends.then_ret ?_
                refine Ends.leave (.inl rfl) (fun _ _ ok => results1 Tryz.results36 (Holds.tmp rfl) ok) (fun w6 hs => ?_)
                exact Ret.intro () trivial (congrArg Value.bool (ordG_bad (.inr (.inr (.inr (all_not hpi hok))))).symm) (HSub.nil _) hs
              · have hok : okP p = true := by simpa using h55
                refine RunC.skip ?_
                refine Ends.then ?_
                refine RunC.region ?_
                refine RunL.still rfl rfl rfl (Still.move rfl rfl) ?_
                refine RunL.still rfl rfl rfl (Still.move rfl rfl) ?_
                refine RunL.still rfl rfl rfl (Still.move rfl rfl) ?_
                refine RunL.still rfl rfl rfl (Still.indexV _ rfl rfl rfl Tryz.underlying36 Tryz.sizeOf3 (hx.shape) (rfl) (by omega)) ?_
                refine RunL.still rfl rfl rfl (Still.load rfl rfl Tryz.isAgg3 (fun _ hs => cells_at (Cells.base0 (hx.cells _) hs) (ints_get hy))) ?_
                refine RunL.still rfl rfl rfl (Still.indexOwnI (m := y.toNat) rfl rfl rfl Tryz.underlying71 Tryz.sizeOf4 (fun _ hs => hs.own (i := 0) rfl) (by omega) (by omega)) ?_
                refine RunL.does0 rfl rfl (Does.storeOwn1 (xs' := (bools (mtTo xs n (i + 1)))) rfl rfl rfl rfl (i := 0) rfl Tryz.sizeOf4 rfl (by simp; omega) ((bools_set _ _ _).trans (congrArg bools (by rw [mtTo, getD_some hy 0])))) (fun _ _ => ?_)
                refine RunL.nil ?_
                refine Ends.block ?_
                refine Ends.then ?_
                refine RunC.region ?_
                refine RunL.still rfl rfl rfl (Still.move rfl rfl) ?_
                refine RunL.still rfl rfl rfl (Still.add rfl rfl rfl (fits64 (by omega) (by omega))) ?_
                refine RunL.still rfl rfl rfl (Still.assign rfl rfl) ?_
                refine RunL.nil ?_
                refine Ends.again (i + 1) ?_ ?_ (Fr.Sub.app ?_ ?_) ?_
                · exact ⟨by omega, ordTo_go hord hy (by omega) (by omega) (by simpa using h48), all_take_succ hall hpi hok⟩
                · show _ < _; omega
                · exact Fr.Sub.cons rfl (Fr.Sub.nil _)
                · exact Fr.Sub.cons rfl (Fr.Sub.cons rfl (Fr.Sub.cons rfl (Fr.Sub.cons rfl (Fr.Sub.nil _))))
                · exact HSub.pick 0 rfl (HSub.nil _)
      · have h23 := of_decide_eq_false h23
        obtain rfl : i = n := by omega
        refine RunC.exit ?_
        refine Ends.then_exit ?_
        refine Ends.then_exit ?_
        refine Ends.block_exit ?_
        refine Ends.then ?_
        refine RunC.seq ?_
        refine RunC.region ?_
        refine RunL.still rfl rfl rfl (Still.assign rfl rfl) ?_
        refine RunL.nil ?_
        refine Ends.then ?_
        refine RunC.ret ?_
        refine Ends.leave (.inl rfl) (fun _ _ ok => results1 Tryz.results36 (Holds.tmp rfl) ok) (fun w7 hs => ?_)
        exact Ret.intro () trivial (congrArg Value.bool (ordG_ok hxl hpsl hord (by rw [← hpsl, List.take_length] at hall; exact hall)).symm) (HSub.nil _) hs

theorem gl_Renumber1 (p : P4) (w : World) : Gives Tryz.prog 51 #[p4V p] w Nil (fun _ : Unit => True) (fun _ => .bool (!okP p)) (fun _ => []) := by
  refine fn_of_run (S := Nil) (args := [p4V p]) (n := 6) (L := []) Tryz.func51 rfl Tryz.ntmps51 (Nat.le_of_ble_eq_true rfl) (Sym.nil _ _) ?_
  change RunC _ _ _ [(0, _)] _
  refine RunC.seq ?_
  refine RunC.region ?_
  refine RunL.grows rfl rfl rfl (Grows.box rfl rfl) (fun b1 _ => ?_)
  refine RunL.still rfl rfl rfl (Still.assign rfl rfl) ?_
  refine RunL.nil ?_
  refine Ends.then ?_
  refine RunC.seq ?_
  refine RunC.region ?_
  refine RunL.still rfl rfl rfl (Still.loads rfl rfl Tryz.isAgg32 Tryz.sizeOf32 (vs := [_, _, _, _]) rfl (fun _ hs => cells_nth (hs.at (i := 0) rfl) ⟨rfl, ⟨rfl, ⟨rfl, ⟨rfl, trivial⟩⟩⟩⟩)) ?_
  refine RunL.grows rfl rfl rfl (Grows.call (vs := #[_]) rfl rfl Tryz.call43 (fun w hs => gl_Valid p w)) (fun _ _ => ?_)
  refine RunL.still rfl rfl rfl (Still.not rfl rfl) ?_
  refine RunL.still rfl rfl rfl (Still.assign rfl rfl) ?_
  refine RunL.nil ?_
  refine Ends.then ?_
  refine RunC.ret ?_
  refine Ends.leave (.inl rfl) (fun _ _ ok => results1 Tryz.results51 (Holds.tmp rfl) ok) (fun w1 hs => ?_)
  exact Ret.intro () trivial rfl (HSub.nil _) hs

theorem gl_IndexFunc (pb : Option Addr) (PA : Addr) (pc : Nat) (ps : List P4) (w : World) (hp : PermsAt w pb PA ps) : Gives Tryz.prog 71 #[prmV pb pc ps, .func (.func 51) #[] #[]] w Nil (fun k : Int => -1 ≤ k ∧ (k < 0 ↔ ps.all okP = true)) (fun k => iv k) (fun _ => []) := by
  have hpl := hp.len
  refine fn_of_run (S := Nil) (args := [prmV pb pc ps, .func (.func 51) #[] #[]]) (n := 19) (L := []) Tryz.func71 rfl Tryz.ntmps71 (Nat.le_of_ble_eq_true rfl) (Sym.nil _ _) ?_
  change RunC _ _ _ [(0, _), (1, _)] _
  refine RunC.seq ?_
  refine RunC.region ?_
  refine RunL.still rfl rfl rfl (Still.assign rfl rfl) ?_
  refine RunL.nil ?_
  refine Ends.then ?_
  refine RunC.seq ?_
  refine RunC.seq ?_
  refine RunC.region ?_
  refine RunL.still rfl rfl rfl (Still.move rfl rfl) ?_
  refine RunL.still rfl rfl rfl (Still.lenSlice rfl rfl Tryz.underlying43) ?_
  refine RunL.still rfl rfl rfl (Still.move rfl rfl) ?_
  refine RunL.nil ?_
  refine Ends.then ?_
  refine RunC.block ?_
  refine RunC.loop2 (γ := Nat) (keep := [(0, _), (1, _), (7, _)]) (hkeep := []) (fun i => i ≤ ps.length ∧ (ps.take i).all okP = true) (fun i => ps.length - i) (fun i => [(8, iv i)]) (fun i => []) 0 ⟨by omega, rfl⟩ (Fr.Sub.cons rfl (Fr.Sub.nil _)) (Fr.Sub.cons rfl (Fr.Sub.cons rfl (Fr.Sub.cons rfl (Fr.Sub.nil _)))) (HSub.nil _) ?_
  rintro i ⟨hi, hall⟩
  refine RunC.seq ?_
  refine RunC.region ?_
  refine RunL.still rfl rfl rfl (Still.lss rfl rfl rfl) ?_
  refine RunL.nil ?_
  refine Ends.then ?_
  refine RunC.seq ?_
  refine RunC.cond rfl (fun h9 => ?_) (fun h9 => ?_)
  · have h9 := of_decide_eq_true h9
    obtain ⟨p, hpi⟩ := get_of_lt (l := ps) (i := i) (by omega)
    refine RunC.skip ?_
    refine Ends.then ?_
    refine RunC.seq ?_
    refine RunC.block ?_
    refine RunC.seq ?_
    refine RunC.region ?_
    refine RunL.still rfl rfl rfl (Still.move rfl rfl) ?_
    refine RunL.still rfl rfl rfl (Still.assign rfl rfl) ?_
    refine RunL.nil ?_
    refine Ends.then ?_
    refine RunC.seq ?_
    refine RunC.region ?_
    refine RunL.still rfl rfl rfl (Still.move rfl rfl) ?_
    refine RunL.still rfl rfl rfl (Still.move rfl rfl) ?_
    refine RunL.still rfl rfl rfl (Still.move rfl rfl) ?_
    refine RunL.still rfl rfl rfl (Still.indexSliceN rfl rfl rfl Tryz.underlying43 Tryz.sizeOf32 (hp.base (by omega)) (by omega)) ?_
    refine RunL.still rfl rfl rfl (Still.loads rfl rfl Tryz.isAgg32 Tryz.sizeOf32 (vs := [iv p.a0, iv p.a1, iv p.a2, iv p.a3]) rfl (fun _ hs => (hp.sym hs).cell i p hpi)) ?_
    refine RunL.grows rfl rfl rfl (Grows.callV (vs := #[_]) rfl rfl rfl Tryz.call51 (fun w hs => gl_Renumber1 p w)) (fun _ _ => ?_)
    refine RunL.nil ?_
    refine Ends.then ?_
    refine RunC.cond rfl (fun h16 => ?_) (fun h16 => ?_)
    · have hok : okP p = false := by simpa using h16
      refine RunC.seq ?_
      refine RunC.region ?_
      refine RunL.still rfl rfl rfl (Still.move rfl rfl) ?_
      refine RunL.still rfl rfl rfl (Still.assign rfl rfl) ?_
      refine RunL.nil ?_
      refine Ends.then ?_
      refine RunC.ret ?_
      refine Ends.block_ret ?_
      refine Ends.then_ret ?_
      refine Ends.then_ret ?_
      refine Ends.block_ret ?_
      refine Ends.then_ret ?_
      refine Ends.leave (.inl rfl) (fun _ _ ok => results1 Tryz.results71 (Holds.tmp rfl) ok) (fun w1 hs => ?_)
      exact Ret.intro (i : Int) ⟨by omega, by rw [all_not hpi hok]; constructor <;> intro h; omega; cases h⟩ rfl (HSub.nil _) hs
    · have hok : okP p = true := by simpa using h16
      refine RunC.skip ?_
      refine Ends.block ?_
      refine Ends.then ?_
      refine RunC.region ?_
      refine RunL.still rfl rfl rfl (Still.add rfl rfl rfl (fits64 (by omega) (by omega))) ?_
      refine RunL.still rfl rfl rfl (Still.move rfl rfl) ?_
      refine RunL.nil ?_
      refine Ends.again (i + 1) ?_ ?_ (Fr.Sub.app ?_ ?_) ?_
      · exact ⟨by omega, all_take_succ hall hpi hok⟩
      · show _ < _; omega
      · exact Fr.Sub.cons rfl (Fr.Sub.nil _)
      · exact Fr.Sub.cons rfl (Fr.Sub.cons rfl (Fr.Sub.cons rfl (Fr.Sub.nil _)))
      · exact HSub.nil _
  · have h9 := of_decide_eq_false h9
    obtain rfl : i = ps.length := by omega
    rw [List.take_length] at hall
    refine RunC.exit ?_
    refine Ends.then_exit ?_
    refine Ends.then_exit ?_
    refine Ends.block_exit ?_
    refine Ends.then ?_
    refine RunC.seq ?_
    refine RunC.region ?_
    refine RunL.still rfl rfl rfl (Still.assign rfl rfl) ?_
    refine RunL.nil ?_
    refine Ends.then ?_
    refine RunC.ret ?_
    refine Ends.leave (.inl rfl) (fun _ _ ok => results1 Tryz.results71 (Holds.tmp rfl) ok) (fun w2 hs => ?_)
    exact Ret.intro (-1) ⟨by omega, by rw [hall]; simp⟩ rfl (HSub.nil _) hs

theorem gl_ContainsFunc (pb : Option Addr) (PA : Addr) (pc : Nat) (ps : List P4) (w : World) (hp : PermsAt w pb PA ps) : Gives Tryz.prog 50 #[prmV pb pc ps, .func (.func 51) #[] #[]] w Nil (fun _ : Unit => True) (fun _ => .bool (!ps.all okP)) (fun _ => []) := by
  refine fn_of_run (S := Nil) (args := [prmV pb pc ps, .func (.func 51) #[] #[]]) (n := 9) (L := []) Tryz.func50 rfl Tryz.ntmps50 (Nat.le_of_ble_eq_true rfl) (Sym.nil _ _) ?_
  change RunC _ _ _ [(0, _), (1, _)] _
  refine RunC.seq ?_
  refine RunC.region ?_
  refine RunL.still rfl rfl rfl (Still.assign rfl rfl) ?_
  refine RunL.nil ?_
  refine Ends.then ?_
  refine RunC.seq ?_
  refine RunC.region ?_
  refine RunL.still rfl rfl rfl (Still.move rfl rfl) ?_
  refine RunL.still rfl rfl rfl (Still.move rfl rfl) ?_
  refine RunL.grows rfl rfl rfl (Grows.call (vs := #[_, _]) rfl rfl Tryz.call71 (fun w hs => gl_IndexFunc pb PA pc ps w (hp.sym hs))) (fun k hk => ?_)
  refine RunL.still rfl rfl rfl (Still.geq rfl rfl rfl) ?_
  refine RunL.still rfl rfl rfl (Still.assign rfl rfl) ?_
  refine RunL.nil ?_
  refine Ends.then ?_
  refine RunC.ret ?_
  refine Ends.leave (.inl rfl) (fun _ _ ok => results1 Tryz.results50 (Holds.tmp rfl) ok) (fun w1 hs => ?_)
  exact Ret.intro () trivial (congrArg Value.bool (by cases ha : ps.all okP <;> rw [ha] at hk <;> simp at hk ⊢ <;> omega)) (HSub.nil _) hs

theorem gl_Renumber (base : Option Addr) (A : Addr) (cap : Nat) (g : Glu) (xb : Option Addr) (XA : Addr) (xc : Nat) (xs : List Int) (pb : Option Addr) (PA : Addr) (pc : Nat) (ps : List P4) (w : World) (hg : GluAt w base A g) (hx : LisAt w xb XA xs) (hp : PermsAt w pb PA ps) (hok : okG g = true) (hyes : ordG xs ps g.length = true) : Gives Tryz.prog 19 #[gluV base cap g, lisV xb xc xs, prmV pb pc ps] w Nil (fun q : Option Addr × Nat => OKB q (renG g xs ps).length) (fun q => .tuple #[gluV q.1 q.2 (renG g xs ps), iv 0]) (fun q => [ownG q (renG g xs ps)]) := by
  have hlen := hg.len
  have hle := hx.len
  have hpl := hp.len
  have h1000 := okG_len hok
  obtain ⟨hxl, hpsl, hord, hall⟩ := ordG_iff.1 hyes
  refine fn_of_run (S := Nil) (args := [gluV base cap g, lisV xb xc xs, prmV pb pc ps]) (n := 139) (L := []) Tryz.func19 rfl Tryz.ntmps19 (Nat.le_of_ble_eq_true rfl) (Sym.nil _ _) ?_
  change RunC _ _ _ [(0, _), (1, _), (2, _)] _
  refine RunC.seq ?_
  refine RunC.region ?_
  refine RunL.grows rfl rfl rfl (Grows.box rfl rfl) (fun b3 _ => ?_)
  refine RunL.grows rfl rfl rfl (Grows.alloc rfl Tryz.zeroValue24) (fun b6 _ => ?_)
  refine RunL.still rfl rfl rfl (Still.assign rfl rfl) ?_
  refine RunL.nil ?_
  refine Ends.then ?_
  refine RunC.seq ?_
  refine RunC.seq ?_
  refine RunC.region ?_
  refine RunL.still rfl rfl rfl (Still.loads rfl rfl Tryz.isAgg24 Tryz.sizeOf24 (vs := [_]) rfl (fun _ hs => cells_nth (hs.at (i := 1) rfl) ⟨rfl, trivial⟩)) ?_
  refine RunL.grows rfl rfl rfl (Grows.call (vs := #[_]) rfl rfl Tryz.call14 (fun w hs => gl_Check base A cap g w (hg.sym hs))) (fun _ _ => ?_)
  refine RunL.still rfl rfl rfl (Still.assign rfl rfl) ?_
  refine RunL.nil ?_
  refine Ends.then ?_
  refine RunC.seq ?_
  refine RunC.region ?_
  refine RunL.still rfl rfl rfl (Still.move rfl rfl) ?_
  refine RunL.still rfl rfl rfl (Still.neq rfl rfl rfl) ?_
  refine RunL.nil ?_
  refine Ends.then ?_
  refine RunC.cond rfl (fun h24 => ?_) (fun h24 => ?_)
  · have h24 := of_decide_eq_true h24
    exact absurd (chkG_ok hok) h24
  · have h24 := of_decide_eq_false h24
    refine RunC.skip ?_
    refine Ends.then ?_
    refine RunC.seq ?_
    refine RunC.region ?_
    refine RunL.still rfl rfl rfl (Still.fieldAddrL (off := 0) (off' := 0) rfl rfl Tryz.underlying24 rfl Tryz.sizeOf22 rfl) ?_
    refine RunL.still rfl rfl rfl (Still.load rfl rfl Tryz.isAgg22 (fun _ hs => cell_nth (hs.at (i := 1) rfl) rfl)) ?_
    refine RunL.still rfl rfl rfl (Still.lenSlice rfl rfl Tryz.underlying22) ?_
    refine RunL.still rfl rfl rfl (Still.assign rfl rfl) ?_
    refine RunL.nil ?_
    refine Ends.then ?_
    refine RunC.seq ?_
    refine RunC.region ?_
    refine RunL.still rfl rfl rfl (Still.move rfl rfl) ?_
    refine RunL.grows rfl rfl rfl (Grows.make (n := g.length) (xs := (ints (List.replicate g.length 0))) rfl rfl rfl Tryz.underlying36 (by kernel_rfl : (_ : Option _) = some (some (.int .i64 0), 1, 8)) rfl (by omega) (by omega) (zeros_one _ _ |>.trans (ints_replicate _ _))) (fun b31 _ => ?_)
    refine RunL.still rfl rfl rfl (Still.assign rfl rfl) ?_
    refine RunL.nil ?_
    refine Ends.then ?_
    refine RunC.seq ?_
    refine RunC.region ?_
    refine RunL.still rfl rfl rfl (Still.move rfl rfl) ?_
    refine RunL.grows rfl rfl rfl (Grows.make (n := g.length) (xs := (bools (List.replicate g.length false))) rfl rfl rfl Tryz.underlying71 (by kernel_rfl : (_ : Option _) = some (some (.bool false), 1, 1)) rfl (by omega) (by omega) (zeros_one _ _ |>.trans (bools_replicate _ _))) (fun b33 _ => ?_)
    refine RunL.still rfl rfl rfl (Still.assign rfl rfl) ?_
    refine RunL.nil ?_
    refine Ends.then ?_
    refine RunC.seq ?_
    refine RunC.seq ?_
    refine RunC.region ?_
    refine RunL.still rfl rfl rfl (Still.move rfl rfl) ?_
    refine RunL.still rfl rfl rfl (Still.lenV rfl rfl Tryz.underlying36 (hx.shape)) ?_
    refine RunL.still rfl rfl rfl (Still.move rfl rfl) ?_
    refine RunL.still rfl rfl rfl (Still.neq rfl rfl rfl) ?_
    refine RunL.still rfl rfl rfl (Still.move rfl rfl) ?_
    refine RunL.split (t := 38) rfl (fun h38 => ?_) (fun h38 => ?_)
    · have h38 := of_decide_eq_true h38
      omega
    · have h38 := of_decide_eq_false h38
      refine RunL.still rfl rfl rfl (Still.move rfl rfl) ?_
      refine RunL.still rfl rfl rfl (Still.lenSlice rfl rfl Tryz.underlying43) ?_
      refine RunL.still rfl rfl rfl (Still.move rfl rfl) ?_
      refine RunL.still rfl rfl rfl (Still.neq rfl rfl rfl) ?_
      refine RunL.still rfl rfl rfl (Still.pickF rfl rfl rfl) ?_
      refine RunL.still rfl rfl rfl (Still.move rfl rfl) ?_
      refine RunL.split (t := 44) rfl (fun h44 => ?_) (fun h44 => ?_)
      · have h44 := of_decide_eq_true h44
        omega
      · have h44 := of_decide_eq_false h44
        refine RunL.still rfl rfl rfl (Still.move rfl rfl) ?_
        refine RunL.grows rfl rfl rfl (Grows.call (vs := #[_, _]) rfl rfl Tryz.call50 (fun w hs => gl_ContainsFunc pb PA pc ps w (hp.sym hs))) (fun _ _ => ?_)
        refine RunL.still rfl rfl rfl (Still.pickF rfl rfl rfl) ?_
        refine RunL.nil ?_
        refine Ends.then ?_
        refine RunC.cond rfl (fun h47 => ?_) (fun h47 => ?_)
        · skip
          rw [hall] at h47; exact absurd h47 (by decide)
        · skip
          refine RunC.skip ?_
          refine Ends.then ?_
          refine RunC.seq ?_
          refine RunC.seq ?_
          refine RunC.region ?_
          refine RunL.still rfl rfl rfl (Still.move rfl rfl) ?_
          refine RunL.still rfl rfl rfl (Still.lenV rfl rfl Tryz.underlying36 (hx.shape)) ?_
          refine RunL.still rfl rfl rfl (Still.move rfl rfl) ?_
          refine RunL.nil ?_
          refine Ends.then ?_
          refine RunC.block ?_
          refine RunC.loop2 (γ := Nat) (keep := [(1, _), (2, _), (3, _), (6, _), (9, _), (10, _), (11, _), (49, _), (50, _)]) (hkeep := [_, _]) (fun i => i ≤ g.length ∧ ordTo xs g.length i = true) (fun i => g.length - i) (fun i => [(51, iv i)]) (fun i => [HL.own 3 1 (.slice (some ⟨b31, 0, none⟩) g.length g.length) g.length (ints (bkTo xs g.length i)), HL.own 4 1 (.slice (some ⟨b33, 0, none⟩) g.length g.length) g.length (bools (mtTo xs g.length i))]) 0 ⟨by omega, rfl⟩ (Fr.Sub.cons rfl (Fr.Sub.nil _)) (Fr.Sub.cons rfl (Fr.Sub.cons rfl (Fr.Sub.cons rfl (Fr.Sub.cons rfl (Fr.Sub.cons rfl (Fr.Sub.cons rfl (Fr.Sub.cons rfl (Fr.Sub.cons rfl (Fr.Sub.cons rfl (Fr.Sub.nil _)))))))))) (HSub.pick 1 rfl (HSub.pick 0 rfl (HSub.pick 0 rfl (HSub.pick 0 rfl (HSub.nil _))))) ?_
          rintro i ⟨hi, hor⟩
          refine RunC.seq ?_
          refine RunC.region ?_
          refine RunL.still rfl rfl rfl (Still.lss rfl rfl rfl) ?_
          refine RunL.nil ?_
          refine Ends.then ?_
          refine RunC.seq ?_
          refine RunC.cond rfl (fun h52 => ?_) (fun h52 => ?_)
          · have h52 := of_decide_eq_true h52
            obtain ⟨y, hy⟩ := get_of_lt (l := xs) (i := i) (by omega)
            have hyb := ordTo_at hord (show i < g.length by omega)
            rw [getD_some hy 0] at hyb
            refine RunC.skip ?_
            refine Ends.then ?_
            refine RunC.seq ?_
            refine RunC.block ?_
            refine RunC.seq ?_
            refine RunC.region ?_
            refine RunL.still rfl rfl rfl (Still.move rfl rfl) ?_
            refine RunL.still rfl rfl rfl (Still.indexV _ rfl rfl rfl Tryz.underlying36 Tryz.sizeOf3 (hx.shape) (rfl) (by omega)) ?_
            refine RunL.still rfl rfl rfl (Still.load rfl rfl Tryz.isAgg3 (fun _ hs => cells_at (Cells.base0 (hx.cells _) hs) (ints_get hy))) ?_
            refine RunL.still rfl rfl rfl (Still.assign rfl rfl) ?_
            refine RunL.still rfl rfl rfl (Still.assign rfl rfl) ?_
            refine RunL.nil ?_
            refine Ends.then ?_
            refine RunC.seq ?_
            refine RunC.seq ?_
            refine RunC.region ?_
            refine RunL.still rfl rfl rfl (Still.move rfl rfl) ?_
            refine RunL.still rfl rfl rfl (Still.lss rfl rfl rfl) ?_
            refine RunL.still rfl rfl rfl (Still.move rfl rfl) ?_
            refine RunL.split (t := 58) rfl (fun h58 => ?_) (fun h58 => ?_)
            · have h58 := of_decide_eq_true h58
              omega
            · have h58 := of_decide_eq_false h58
              refine RunL.still rfl rfl rfl (Still.move rfl rfl) ?_
              refine RunL.still rfl rfl rfl (Still.move rfl rfl) ?_
              refine RunL.still rfl rfl rfl (Still.geq rfl rfl rfl) ?_
              refine RunL.still rfl rfl rfl (Still.pickF rfl rfl rfl) ?_
              refine RunL.still rfl rfl rfl (Still.move rfl rfl) ?_
              refine RunL.split (t := 63) rfl (fun h63 => ?_) (fun h63 => ?_)
              · have h63 := of_decide_eq_true h63
                omega
              · have h63 := of_decide_eq_false h63
                refine RunL.still rfl rfl rfl (Still.move rfl rfl) ?_
                refine RunL.still rfl rfl rfl (Still.move rfl rfl) ?_
                refine RunL.still rfl rfl rfl (Still.indexOwnI (m := y.toNat) rfl rfl rfl Tryz.underlying71 Tryz.sizeOf4 (fun _ hs => hs.own (i := 1) rfl) (by omega) (by omega)) ?_
                refine RunL.still rfl rfl rfl (Still.load rfl rfl Tryz.isAgg4 (fun w hs => own_at (hs.own (i := 1) rfl) (bools_get (getD_get (by simp; omega) false)))) ?_
                refine RunL.still rfl rfl rfl (Still.pickF rfl rfl rfl) ?_
                refine RunL.nil ?_
                refine Ends.then ?_
                refine RunC.cond rfl (fun h68 => ?_) (fun h68 => ?_)
                · skip
                  rw [ordTo_bad (by omega) hy (.inr (.inr h68))] at hord; cases hord
                · skip
                  refine RunC.skip ?_
                  refine Ends.then ?_
                  refine RunC.region ?_
                  refine RunL.still rfl rfl rfl (Still.move rfl rfl) ?_
                  refine RunL.still rfl rfl rfl (Still.move rfl rfl) ?_
                  refine RunL.still rfl rfl rfl (Still.move rfl rfl) ?_
                  refine RunL.still rfl rfl rfl (Still.move rfl rfl) ?_
                  refine RunL.still rfl rfl rfl (Still.move rfl rfl) ?_
                  refine RunL.still rfl rfl rfl (Still.indexOwnI (m := y.toNat) rfl rfl rfl Tryz.underlying71 Tryz.sizeOf4 (fun _ hs => hs.own (i := 1) rfl) (by omega) (by omega)) ?_
                  refine RunL.does0 rfl rfl (Does.storeOwn1 (xs' := (bools (mtTo xs g.length (i + 1)))) rfl rfl rfl rfl (i := 1) rfl Tryz.sizeOf4 rfl (by simp; omega) ((bools_set _ _ _).trans (congrArg bools (by rw [mtTo, getD_some hy 0])))) (fun _ _ => ?_)
                  refine RunL.still rfl rfl rfl (Still.indexOwnI (m := y.toNat) rfl rfl rfl Tryz.underlying36 Tryz.sizeOf3 (fun _ hs => hs.own (i := 0) rfl) (by omega) (by omega)) ?_
                  refine RunL.does0 rfl rfl (Does.storeOwn1 (xs' := (ints (bkTo xs g.length (i + 1)))) rfl rfl rfl rfl (i := 0) rfl Tryz.sizeOf3 rfl (by simp; omega) ((ints_set _ _ _).trans (congrArg ints (by rw [bkTo, getD_some hy 0])))) (fun _ _ => ?_)
                  refine RunL.nil ?_
                  refine Ends.block ?_
                  refine Ends.then ?_
                  refine RunC.region ?_
                  refine RunL.still rfl rfl rfl (Still.add rfl rfl rfl (fits64 (by omega) (by omega))) ?_
                  refine RunL.still rfl rfl rfl (Still.move rfl rfl) ?_
                  refine RunL.nil ?_
                  refine Ends.again (i + 1) ?_ ?_ (Fr.Sub.app ?_ ?_) ?_
                  · exact ⟨by omega, ordTo_go hor hy (by omega) (by omega) (by simpa using h68)⟩
                  · show _ < _; omega
                  · exact Fr.Sub.cons rfl (Fr.Sub.nil _)
                  · exact Fr.Sub.cons rfl (Fr.Sub.cons rfl (Fr.Sub.cons rfl (Fr.Sub.cons rfl (Fr.Sub.cons rfl (Fr.Sub.cons rfl (Fr.Sub.cons rfl (Fr.Sub.cons rfl (Fr.Sub.cons rfl (Fr.Sub.nil _)))))))))
                  · exact HSub.pick 0 rfl (HSub.pick 0 rfl (HSub.pick 0 rfl (HSub.pick 0 rfl (HSub.nil _))))
          · have h52 := of_decide_eq_false h52
            obtain rfl : i = g.length := by omega
            refine RunC.exit ?_
            refine Ends.then_exit ?_
            refine Ends.then_exit ?_
            refine Ends.block_exit ?_
            refine Ends.then ?_
            refine RunC.seq ?_
            refine RunC.region ?_
            refine RunL.grows rfl rfl rfl (Grows.alloc rfl Tryz.zeroValue24) (fun b14 _ => ?_)
            refine RunL.own_nil 35 20 ?_
            refine RunL.nil ?_
            refine Ends.then ?_
            refine RunC.seq ?_
            refine RunC.seq ?_
            refine RunC.region ?_
            refine RunL.still rfl rfl rfl (Still.move rfl rfl) ?_
            refine RunL.still rfl rfl rfl (Still.lenV rfl rfl Tryz.underlying36 (hx.shape)) ?_
            refine RunL.still rfl rfl rfl (Still.move rfl rfl) ?_
            refine RunL.nil ?_
            refine Ends.then ?_
            refine RunC.block ?_
            refine RunC.loop2 (γ := Value × Nat) (keep := [(2, _), (3, _), (6, _), (10, _), (14, _), (78, _), (79, _)]) (hkeep := [_, _, _, _]) (fun (v, i) => i ≤ g.length) (fun (v, i) => g.length - i) (fun (v, i) => [(80, iv i)]) (fun (v, i) => [HL.obj b14 (.cells #[v] 24 (0, 0)), HL.own 35 20 v i ((renTo g xs ps i).flatMap encT)]) (.slice none 0 0, 0) (by omega) (Fr.Sub.cons rfl (Fr.Sub.nil _)) (Fr.Sub.cons rfl (Fr.Sub.cons rfl (Fr.Sub.cons rfl (Fr.Sub.cons rfl (Fr.Sub.cons rfl (Fr.Sub.cons rfl (Fr.Sub.cons rfl (Fr.Sub.nil _)))))))) (HSub.pick 1 rfl (HSub.pick 0 rfl (HSub.pick 0 rfl (HSub.pick 0 rfl (HSub.pick 0 rfl (HSub.pick 0 rfl (HSub.nil _))))))) ?_
            rintro ⟨v, i⟩ hi
            have hi : i ≤ g.length := hi
            refine RunC.seq ?_
            refine RunC.region ?_
            refine RunL.still rfl rfl rfl (Still.lss rfl rfl rfl) ?_
            refine RunL.nil ?_
            refine Ends.then ?_
            refine RunC.seq ?_
            refine RunC.cond rfl (fun h81 => ?_) (fun h81 => ?_)
            · have h81 := of_decide_eq_true h81
              obtain ⟨y, hy⟩ := get_of_lt (l := xs) (i := i) (by omega)
              obtain ⟨p, hpi⟩ := get_of_lt (l := ps) (i := i) (by omega)
              have hyb := ordTo_at hord (show i < g.length by omega)
              rw [getD_some hy 0] at hyb
              have hpok := okP_all hall hpi
              refine RunC.skip ?_
              refine Ends.then ?_
              refine RunC.seq ?_
              refine RunC.block ?_
              refine RunC.seq ?_
              refine RunC.region ?_
              refine RunL.still rfl rfl rfl (Still.move rfl rfl) ?_
              refine RunL.still rfl rfl rfl (Still.indexV _ rfl rfl rfl Tryz.underlying36 Tryz.sizeOf3 (hx.shape) (rfl) (by omega)) ?_
              refine RunL.still rfl rfl rfl (Still.load rfl rfl Tryz.isAgg3 (fun _ hs => cells_at (Cells.base0 (hx.cells _) hs) (ints_get hy))) ?_
              refine RunL.still rfl rfl rfl (Still.assign rfl rfl) ?_
              refine RunL.still rfl rfl rfl (Still.assign rfl rfl) ?_
              refine RunL.nil ?_
              refine Ends.then ?_
              refine RunC.seq ?_
              refine RunC.region ?_
              refine RunL.grows rfl rfl rfl (Grows.alloc rfl Tryz.zeroValue35) (fun b17 _ => ?_)
              refine RunL.nil ?_
              refine Ends.then ?_
              refine RunC.seq ?_
              refine RunC.seq ?_
              refine RunC.region ?_
              refine RunL.still rfl rfl rfl (Still.move rfl rfl) ?_
              refine RunL.nil ?_
              refine Ends.then ?_
              refine RunC.block ?_
              refine RunC.loop2 (γ := Nat) (keep := [(2, _), (3, _), (6, _), (10, _), (14, _), (15, _), (16, _), (17, _), (78, _), (79, _), (80, _)]) (hkeep := [_, _, _, _, _, _]) (fun f => f ≤ 4) (fun f => 4 - f) (fun f => [(85, iv f)]) (fun f => [HL.obj b17 (.cells (ttA (rowsTo (renH g xs ps i) f)) 35 (0, 0))]) 0 (by omega) (Fr.Sub.cons rfl (Fr.Sub.nil _)) (Fr.Sub.cons rfl (Fr.Sub.cons rfl (Fr.Sub.cons rfl (Fr.Sub.cons rfl (Fr.Sub.cons rfl (Fr.Sub.cons rfl (Fr.Sub.cons rfl (Fr.Sub.cons rfl (Fr.Sub.cons rfl (Fr.Sub.cons rfl (Fr.Sub.cons rfl (Fr.Sub.nil _)))))))))))) (HSub.pick 0 rfl (HSub.pick 0 rfl (HSub.pick 0 rfl (HSub.pick 0 rfl (HSub.pick 0 rfl (HSub.pick 0 rfl (HSub.pick 0 rfl (HSub.nil _)))))))) ?_
              rintro f hf
              refine RunC.seq ?_
              refine RunC.region ?_
              refine RunL.still rfl rfl rfl (Still.lss rfl rfl rfl) ?_
              refine RunL.nil ?_
              refine Ends.then ?_
              refine RunC.seq ?_
              refine RunC.cond rfl (fun h86 => ?_) (fun h86 => ?_)
              · have h86 := of_decide_eq_true h86
                have hf4 : f < 4 := by omega
                have hpf := okP_at hpok f
                have hxr : renH g xs ps i f = renF xs ps g.length i (fAt g y.toNat (p.at f).toNat) := by rw [renH, getD_some hy 0, pAt_of hpi]
                have hfree : (fAt g y.toNat (p.at f).toNat).tet < 0 → (fAt g y.toNat (p.at f).toNat) = noF := okG_free hok (by omega) (by omega)
                refine RunC.skip ?_
                refine Ends.then ?_
                refine RunC.seq ?_
                refine RunC.block ?_
                refine RunC.seq ?_
                refine RunC.region ?_
                refine RunL.still rfl rfl rfl (Still.move rfl rfl) ?_
                refine RunL.still rfl rfl rfl (Still.assign rfl rfl) ?_
                refine RunL.nil ?_
                refine Ends.then ?_
                refine RunC.seq ?_
                refine RunC.draw 14 (.still 0 (.still 1 (.still 2 (.still 3 (.still 4 (.still 5 (.still 6 (.still 7 (.still 8 (.still 9 (.still 10 (.still 11 (.still 12 (.still 13 .done)))))))))))))) (by kernel_rfl) (by kernel_rfl) ?_
                refine RunG.still rfl rfl rfl rfl (Still.move rfl rfl) ?_
                refine RunG.still rfl rfl rfl rfl (Still.fieldAddrL (off := 0) (off' := 0) rfl rfl Tryz.underlying24 rfl Tryz.sizeOf22 rfl) ?_
                refine RunG.still rfl rfl rfl rfl (Still.load rfl rfl Tryz.isAgg22 (fun _ hs => cell_nth (hs.at (i := 6) rfl) rfl)) ?_
                refine RunG.still rfl rfl rfl rfl (Still.move rfl rfl) ?_
                refine RunG.still rfl rfl rfl rfl (Still.move rfl rfl) ?_
                refine RunG.still rfl rfl rfl rfl (Still.move rfl rfl) ?_
                refine RunG.still rfl rfl rfl rfl (Still.move rfl rfl) ?_
                refine RunG.still rfl rfl rfl rfl (Still.indexSliceN rfl rfl rfl Tryz.underlying43 Tryz.sizeOf32 (hp.base (by omega)) (by omega)) ?_
                refine RunG.still rfl rfl rfl rfl (Still.indexArrN rfl rfl rfl Tryz.underlying32 Tryz.sizeOf3 (by omega)) ?_
                refine RunG.still rfl rfl rfl rfl (Still.load (v := iv (p.at f)) rfl rfl Tryz.isAgg3 (fun _ hs => (hp.sym hs).one hpi hf4)) ?_
                refine RunG.still rfl rfl rfl rfl (Still.indexSliceE y.toNat rfl rfl rfl Tryz.underlying22 Tryz.sizeOf35 (hg.base (by omega)) (by omega) (by omega)) ?_
                refine RunG.still rfl rfl rfl rfl (Still.indexArrE (p.at f).toNat rfl rfl rfl Tryz.underlying35 Tryz.sizeOf34 (by omega) (by omega)) ?_
                refine RunG.still rfl rfl rfl rfl (Still.loads rfl rfl Tryz.isAgg34 Tryz.sizeOf34 (vs := [iv (fAt g y.toNat (p.at f).toNat).tet, iv (fAt g y.toNat (p.at f).toNat).p.a0, iv (fAt g y.toNat (p.at f).toNat).p.a1, iv (fAt g y.toNat (p.at f).toNat).p.a2, iv (fAt g y.toNat (p.at f).toNat).p.a3]) rfl (fun _ hs => (hg.sym hs).face (tAt_get (by omega)) (by omega))) ?_
                refine RunG.still rfl rfl rfl rfl (Still.indexArrNL rfl rfl rfl Tryz.underlying35 Tryz.sizeOf34 (by omega)) ?_
                refine RunG.done ?_
                show RunL _ _ _ [_] _ _
                refine RunL.does0 rfl rfl (Does.store rfl rfl rfl (i := 0) rfl Tryz.sizeOf34 rfl (Nat.ble_eq_true_of_le (show 0 + f * 5 + 5 ≤ 20 by omega)) rfl) (fun _ _ => ?_)
                refine RunL.conv (fun _ hs => hs.re 0 rfl (show _ = HL.obj b17 (.cells (ttA ((rowsTo (renH g xs ps i) f).setF f (fAt g y.toNat (p.at f).toNat))) 35 (0, 0)) from congrArg (fun z => HL.obj b17 (.cells z 35 (0, 0))) (ttA_fc _ hf4 (fAt g y.toNat (p.at f).toNat)))) ?_
                refine RunL.nil ?_
                refine Ends.then ?_
                refine RunC.seq ?_
                refine RunC.region ?_
                refine RunL.still rfl rfl rfl (Still.move rfl rfl) ?_
                refine RunL.still rfl rfl rfl (Still.indexArrNL rfl rfl rfl Tryz.underlying35 Tryz.sizeOf34 (by omega)) ?_
                refine RunL.still rfl rfl rfl (Still.loads rfl rfl Tryz.isAgg34 Tryz.sizeOf34 (vs := [iv (fAt g y.toNat (p.at f).toNat).tet, iv (fAt g y.toNat (p.at f).toNat).p.a0, iv (fAt g y.toNat (p.at f).toNat).p.a1, iv (fAt g y.toNat (p.at f).toNat).p.a2, iv (fAt g y.toNat (p.at f).toNat).p.a3]) rfl (fun _ hs => cells_nth (hs.at (i := 0) rfl) (cellsAt_set _ (fAt g y.toNat (p.at f).toNat) hf4))) ?_
                refine RunL.grows rfl rfl rfl (Grows.alloc rfl Tryz.zeroValue34) (fun b19 _ => ?_)
                refine RunL.does0 rfl rfl (Does.store rfl rfl rfl (i := 0) rfl Tryz.sizeOf34 rfl (rfl) rfl) (fun _ _ => ?_)
                refine RunL.nil ?_
                refine Ends.then ?_
                refine RunC.seq ?_
                refine RunC.region ?_
                refine RunL.still rfl rfl rfl (Still.fieldAddrL (off := 0) (off' := 0) rfl rfl Tryz.underlying34 rfl Tryz.sizeOf3 rfl) ?_
                refine RunL.still rfl rfl rfl (Still.load rfl rfl Tryz.isAgg3 (fun _ hs => cell_nth (hs.at (i := 0) rfl) rfl)) ?_
                refine RunL.still rfl rfl rfl (Still.geq rfl rfl rfl) ?_
                refine RunL.nil ?_
                refine Ends.then ?_
                refine RunC.cond rfl (fun h107 => ?_) (fun h107 => ?_)
                · have h107 := of_decide_eq_true h107
                  have hF := okG_glued hok (t := y.toNat) (f := (p.at f).toNat) (by omega) (by omega) (by omega)
                  have hFl := hF.lo
                  have hFh := hF.hi
                  have hXok := hF.ok
                  have hbk := bkTo_bound xs g.length (by omega) g.length (Nat.le_refl _) (fAt g y.toNat (p.at f).toNat).tet.toNat
                  have hpk : ps[((bkTo xs g.length g.length).getD (fAt g y.toNat (p.at f).toNat).tet.toNat 0).toNat]? = some (pAt ps ((bkTo xs g.length g.length).getD (fAt g y.toNat (p.at f).toNat).tet.toNat 0).toNat) := pAt_get (by omega)
                  have hqok := okP_all hall hpk
                  refine RunC.seq ?_
                  refine RunC.region ?_
                  refine RunL.still rfl rfl rfl (Still.move rfl rfl) ?_
                  refine RunL.still rfl rfl rfl (Still.fieldAddrL (off := 0) (off' := 0) rfl rfl Tryz.underlying34 rfl Tryz.sizeOf3 rfl) ?_
                  refine RunL.still rfl rfl rfl (Still.load rfl rfl Tryz.isAgg3 (fun _ hs => cell_nth (hs.at (i := 0) rfl) rfl)) ?_
                  refine RunL.still rfl rfl rfl (Still.indexOwnI (m := (fAt g y.toNat (p.at f).toNat).tet.toNat) rfl rfl rfl Tryz.underlying36 Tryz.sizeOf3 (fun _ hs => hs.own (i := 4) rfl) (by omega) (by omega)) ?_
                  refine RunL.still rfl rfl rfl (Still.load rfl rfl Tryz.isAgg3 (fun w hs => own_at (hs.own (i := 4) rfl) (ints_get (getD_get' (by simp; omega))))) ?_
                  refine RunL.still rfl rfl rfl (Still.assign rfl rfl) ?_
                  refine RunL.nil ?_
                  refine Ends.then ?_
                  refine RunC.draw 17 (.still 0 (.still 1 (.still 2 (.still 3 (.still 4 (.still 5 (.still 7 (.still 8 (.still 9 (.still 10 (.still 11 (.still 12 (.one 6 (.one 13 (.one 14 (.still 15 (.still 16 .done))))))))))))))))) (by kernel_rfl) (by kernel_rfl) ?_
                  refine RunG.still rfl rfl rfl rfl (Still.move rfl rfl) ?_
                  refine RunG.still rfl rfl rfl rfl (Still.move rfl rfl) ?_
                  refine RunG.still rfl rfl rfl rfl (Still.move rfl rfl) ?_
                  refine RunG.still rfl rfl rfl rfl (Still.move rfl rfl) ?_
                  refine RunG.still rfl rfl rfl rfl (Still.indexSliceE ((bkTo xs g.length g.length).getD (fAt g y.toNat (p.at f).toNat).tet.toNat 0).toNat rfl rfl rfl Tryz.underlying43 Tryz.sizeOf32 (hp.base (by omega)) (by omega) (by omega)) ?_
                  refine RunG.still rfl rfl rfl rfl (Still.loads rfl rfl Tryz.isAgg32 Tryz.sizeOf32 (vs := [iv (pAt ps ((bkTo xs g.length g.length).getD (fAt g y.toNat (p.at f).toNat).tet.toNat 0).toNat).a0, iv (pAt ps ((bkTo xs g.length g.length).getD (fAt g y.toNat (p.at f).toNat).tet.toNat 0).toNat).a1, iv (pAt ps ((bkTo xs g.length g.length).getD (fAt g y.toNat (p.at f).toNat).tet.toNat 0).toNat).a2, iv (pAt ps ((bkTo xs g.length g.length).getD (fAt g y.toNat (p.at f).toNat).tet.toNat 0).toNat).a3]) rfl (fun _ hs => (hp.sym hs).cell _ _ hpk)) ?_
                  refine RunG.still rfl rfl rfl rfl (Still.fieldAddrL (off := 0) (off' := 1) rfl rfl Tryz.underlying34 rfl Tryz.sizeOf32 rfl) ?_
                  refine RunG.still rfl rfl rfl rfl (Still.loads rfl rfl Tryz.isAgg32 Tryz.sizeOf32 (vs := [_, _, _, _]) rfl (fun _ hs => cells_nth (hs.at (i := 0) rfl) ⟨rfl, ⟨rfl, ⟨rfl, ⟨rfl, trivial⟩⟩⟩⟩)) ?_
                  refine RunG.still rfl rfl rfl rfl (Still.move rfl rfl) ?_
                  refine RunG.still rfl rfl rfl rfl (Still.move rfl rfl) ?_
                  refine RunG.still rfl rfl rfl rfl (Still.indexSliceN rfl rfl rfl Tryz.underlying43 Tryz.sizeOf32 (hp.base (by omega)) (by omega)) ?_
                  refine RunG.still rfl rfl rfl rfl (Still.loads rfl rfl Tryz.isAgg32 Tryz.sizeOf32 (vs := [iv p.a0, iv p.a1, iv p.a2, iv p.a3]) rfl (fun _ hs => (hp.sym hs).cell i p hpi)) ?_
                  refine RunG.grows rfl rfl rfl rfl (Grows.call (vs := #[_]) rfl rfl Tryz.call48 (fun w hs => gl_inverse (pAt ps ((bkTo xs g.length g.length).getD (fAt g y.toNat (p.at f).toNat).tet.toNat 0).toNat) w hqok)) (fun _ _ => ?_)
                  refine RunG.grows rfl rfl rfl rfl (Grows.call (vs := #[_, _]) rfl rfl Tryz.call52 (fun w hs => gl_compose (fAt g y.toNat (p.at f).toNat).p p w hpok)) (fun _ _ => ?_)
                  refine RunG.grows rfl rfl rfl rfl (Grows.call (vs := #[_, _]) rfl rfl Tryz.call52 (fun w hs => gl_compose (invP (pAt ps ((bkTo xs g.length g.length).getD (fAt g y.toNat (p.at f).toNat).tet.toNat 0).toNat)) (compP (fAt g y.toNat (p.at f).toNat).p p) w (comp_ok hXok hpok))) (fun _ _ => ?_)
                  refine RunG.still rfl rfl rfl rfl (Still.build_1_4 (fun x0_0 x1_0 x1_1 x1_2 x1_3 => .agg #[x0_0, x1_0, x1_1, x1_2, x1_3]) rfl rfl rfl (fun _ => by kernel_rfl)) ?_
                  refine RunG.still rfl rfl rfl rfl (Still.indexArrNL rfl rfl rfl Tryz.underlying35 Tryz.sizeOf34 (by omega)) ?_
                  refine RunG.done ?_
                  show RunL _ _ _ [_] _ _
                  refine RunL.does0 rfl rfl (Does.store rfl rfl rfl (i := 1) rfl Tryz.sizeOf34 rfl (Nat.ble_eq_true_of_le (show 0 + f * 5 + 5 ≤ 20 by omega)) rfl) (fun _ _ => ?_)
                  refine RunL.conv (fun _ hs => hs.re 1 rfl (show _ = HL.obj b17 (.cells (ttA (rowsTo (renH g xs ps i) (f + 1))) 35 (0, 0)) from congrArg (fun z => HL.obj b17 (.cells z 35 (0, 0))) (rowsTo_set2 hf4 (x := (fAt g y.toNat (p.at f).toNat)) (y := ⟨((bkTo xs g.length g.length).getD (fAt g y.toNat (p.at f).toNat).tet.toNat 0), compP (invP (pAt ps ((bkTo xs g.length g.length).getD (fAt g y.toNat (p.at f).toNat).tet.toNat 0).toNat)) (compP (fAt g y.toNat (p.at f).toNat).p p)⟩) (by rw [hxr, renF_pos (by omega), pAt_of hpi]; rfl)))) ?_
                  refine RunL.nil ?_
                  refine Ends.block ?_
                  refine Ends.then ?_
                  refine RunC.region ?_
                  refine RunL.still rfl rfl rfl (Still.add rfl rfl rfl (fits64 (by omega) (by omega))) ?_
                  refine RunL.still rfl rfl rfl (Still.move rfl rfl) ?_
                  refine RunL.nil ?_
                  refine Ends.again (f + 1) ?_ ?_ (Fr.Sub.app ?_ ?_) ?_
                  · show _; omega
                  · show _ < _; omega
                  · exact Fr.Sub.cons rfl (Fr.Sub.nil _)
                  · exact Fr.Sub.cons rfl (Fr.Sub.cons rfl (Fr.Sub.cons rfl (Fr.Sub.cons rfl (Fr.Sub.cons rfl (Fr.Sub.cons rfl (Fr.Sub.cons rfl (Fr.Sub.cons rfl (Fr.Sub.cons rfl (Fr.Sub.cons rfl (Fr.Sub.cons rfl (Fr.Sub.nil _)))))))))))
                  · exact HSub.pick 1 rfl (HSub.pick 1 rfl (HSub.pick 1 rfl (HSub.pick 1 rfl (HSub.pick 1 rfl (HSub.pick 1 rfl (HSub.pick 1 rfl (HSub.nil _)))))))
                · have h107 := of_decide_eq_false h107
                  refine RunC.skip ?_
                  refine Ends.block ?_
                  refine Ends.then ?_
                  refine RunC.region ?_
                  refine RunL.still rfl rfl rfl (Still.add rfl rfl rfl (fits64 (by omega) (by omega))) ?_
                  refine RunL.still rfl rfl rfl (Still.move rfl rfl) ?_
                  refine RunL.nil ?_
                  refine Ends.again (f + 1) ?_ ?_ (Fr.Sub.app ?_ ?_) ?_
                  · show _; omega
                  · show _ < _; omega
                  · exact Fr.Sub.cons rfl (Fr.Sub.nil _)
                  · exact Fr.Sub.cons rfl (Fr.Sub.cons rfl (Fr.Sub.cons rfl (Fr.Sub.cons rfl (Fr.Sub.cons rfl (Fr.Sub.cons rfl (Fr.Sub.cons rfl (Fr.Sub.cons rfl (Fr.Sub.cons rfl (Fr.Sub.cons rfl (Fr.Sub.cons rfl (Fr.Sub.nil _)))))))))))
                  · exact HSub.pick 1 (by rw [rowsTo, hxr, renF_neg (by omega), ← hfree (by omega)]; rfl) (HSub.pick 1 rfl (HSub.pick 1 rfl (HSub.pick 1 rfl (HSub.pick 1 rfl (HSub.pick 1 rfl (HSub.pick 1 rfl (HSub.nil _)))))))
              · have h86 := of_decide_eq_false h86
                obtain rfl : f = 4 := by omega
                refine RunC.exit ?_
                refine Ends.then_exit ?_
                refine Ends.then_exit ?_
                refine Ends.block_exit ?_
                refine Ends.then ?_
                refine RunC.conv (fun _ hs => hs.re 0 rfl (show _ = HL.obj b17 (.cells (ttV (renRow g xs ps i)).cells 35 (0, 0)) by rw [show rowsTo (renH g xs ps i) 4 = renRow g xs ps i from rfl]; rfl)) ?_
                refine RunC.region ?_
                refine RunL.still rfl rfl rfl (Still.fieldAddrL (off := 0) (off' := 0) rfl rfl Tryz.underlying24 rfl Tryz.sizeOf22 rfl) ?_
                refine RunL.still rfl rfl rfl (Still.load rfl rfl Tryz.isAgg22 (fun _ hs => cell_nth (hs.at (i := 1) rfl) rfl)) ?_
                refine RunL.still rfl rfl rfl (Still.loads rfl rfl Tryz.isAgg35 Tryz.sizeOf35 (vs := [_, _, _, _, _, _, _, _, _, _, _, _, _, _, _, _, _, _, _, _]) rfl (fun _ hs => cells_nth (hs.at (i := 0) rfl) ⟨rfl, ⟨rfl, ⟨rfl, ⟨rfl, ⟨rfl, ⟨rfl, ⟨rfl, ⟨rfl, ⟨rfl, ⟨rfl, ⟨rfl, ⟨rfl, ⟨rfl, ⟨rfl, ⟨rfl, ⟨rfl, ⟨rfl, ⟨rfl, ⟨rfl, ⟨rfl, trivial⟩⟩⟩⟩⟩⟩⟩⟩⟩⟩⟩⟩⟩⟩⟩⟩⟩⟩⟩⟩)) ?_
                refine RunL.grows rfl rfl rfl (Grows.slice1 rfl rfl Tryz.underlying22 Tryz.sizeOf35 rfl Tryz.zeroValue35 (by decide)) (fun b134 _ => ?_)
                refine RunL.does rfl rfl rfl (Does.appendTo (n' := (i + 1)) (xs' := ((renTo g xs ps i ++ [renRow g xs ps i]).flatMap encT)) (news := [_, _, _, _, _, _, _, _, _, _, _, _, _, _, _, _, _, _, _, _]) rfl rfl rfl rfl (i := 3) rfl Tryz.underlying22 (by kernel_rfl : (_ : Option _) = some (some (.agg #[.int .i64 0, .int .i64 0, .int .i64 0, .int .i64 0, .int .i64 0, .int .i64 0, .int .i64 0, .int .i64 0, .int .i64 0, .int .i64 0, .int .i64 0, .int .i64 0, .int .i64 0, .int .i64 0, .int .i64 0, .int .i64 0, .int .i64 0, .int .i64 0, .int .i64 0, .int .i64 0]), 20, 160)) rfl rfl (fun _ hs => cells_nth (hs.at (i := 0) rfl) ⟨rfl, ⟨rfl, ⟨rfl, ⟨rfl, ⟨rfl, ⟨rfl, ⟨rfl, ⟨rfl, ⟨rfl, ⟨rfl, ⟨rfl, ⟨rfl, ⟨rfl, ⟨rfl, ⟨rfl, ⟨rfl, ⟨rfl, ⟨rfl, ⟨rfl, ⟨rfl, trivial⟩⟩⟩⟩⟩⟩⟩⟩⟩⟩⟩⟩⟩⟩⟩⟩⟩⟩⟩⟩) rfl rfl (by omega) (by omega) (rfl) (flatT_snoc _ _)) (fun v135 hv135 => ?_)
                refine RunL.know (fun _ hs => own_oneCell (hs.own (i := 3) rfl)) (fun h1v => ?_)
                refine RunL.still rfl rfl rfl (Still.fieldAddrL (off := 0) (off' := 0) rfl rfl Tryz.underlying24 rfl Tryz.sizeOf22 rfl) ?_
                refine RunL.does0 rfl rfl (Does.store1 rfl rfl rfl (i := 2) rfl Tryz.sizeOf22 (h1v) (rfl)) (fun _ _ => ?_)
                refine RunL.nil ?_
                refine Ends.block ?_
                refine Ends.then ?_
                refine RunC.region ?_
                refine RunL.still rfl rfl rfl (Still.add rfl rfl rfl (fits64 (by omega) (by omega))) ?_
                refine RunL.still rfl rfl rfl (Still.move rfl rfl) ?_
                refine RunL.nil ?_
                refine Ends.again (v135, i + 1) ?_ ?_ (Fr.Sub.app ?_ ?_) ?_
                · show i + 1 ≤ _; omega
                · show _ - (i + 1) < _ - i; omega
                · exact Fr.Sub.cons rfl (Fr.Sub.nil _)
                · exact Fr.Sub.cons rfl (Fr.Sub.cons rfl (Fr.Sub.cons rfl (Fr.Sub.cons rfl (Fr.Sub.cons rfl (Fr.Sub.cons rfl (Fr.Sub.cons rfl (Fr.Sub.nil _)))))))
                · exact HSub.pick 2 rfl (HSub.pick 2 (by rw [renTo_succ]; rfl) (HSub.pick 2 rfl (HSub.pick 2 rfl (HSub.pick 2 rfl (HSub.pick 2 rfl (HSub.nil _))))))
            · have h81 := of_decide_eq_false h81
              obtain rfl : i = g.length := by omega
              refine RunC.know (fun _ hs => own_shape (hs.own (i := 1) rfl)) (fun hsh => ?_)
              obtain ⟨vb, vc, hvv, hvb⟩ := hsh
              subst hvv
              refine RunC.exit ?_
              refine Ends.then_exit ?_
              refine Ends.then_exit ?_
              refine Ends.block_exit ?_
              refine Ends.then ?_
              refine RunC.seq ?_
              refine RunC.region ?_
              refine RunL.still rfl rfl rfl (Still.loads rfl rfl Tryz.isAgg24 Tryz.sizeOf24 (vs := [_]) rfl (fun _ hs => cells_nth (hs.at (i := 0) rfl) ⟨rfl, trivial⟩)) ?_
              refine RunL.does0 rfl rfl (Does.store rfl rfl rfl (i := 4) rfl Tryz.sizeOf24 rfl (rfl) rfl) (fun _ _ => ?_)
              refine RunL.still rfl rfl rfl (Still.assign rfl rfl) ?_
              refine RunL.nil ?_
              refine Ends.then ?_
              refine RunC.ret ?_
              refine Ends.leave (.inl rfl) (fun _ _ ok => results2 Tryz.results19 (Holds.cell rfl (fun _ hs => load_cells (vs := [_]) Tryz.isAgg24 Tryz.sizeOf24 rfl (cells_nth (hs.at (i := 4) rfl) ⟨rfl, trivial⟩))) (Holds.tmp rfl) ok) (fun w1 hs => ?_)
              exact Ret.intro (vb, vc) (by rw [OKB, renG_len]; exact hvb) (by show _ = Value.tuple #[gluV vb vc (renG g xs ps), iv 0]; simp only [gluV, renG_len]; try rfl) (HSub.pick 1 (by rw [ownG, renG_len]; rfl) (HSub.nil _)) hs

end Go.Proofs
/- What is read of the text of the gluing with one tetrahedron. -/
namespace Go.V
open Go
def trimL (s : ByteArray) : ByteArray := ⟨(Lib.trimLeftB s.data.toList 32).toArray⟩
def wW (s : ByteArray) : ByteArray := ⟨(Lib.cut (trimL s).data.toList spS.data.toList).1.toArray⟩
def wR (s : ByteArray) : ByteArray := ⟨(Lib.cut (trimL s).data.toList spS.data.toList).2.1.toArray⟩
def digS : ByteArray := ⟨#[48, 49, 50, 51, 52, 53, 54, 55, 56, 57]⟩
def digT (s : ByteArray) : ByteArray := ⟨(Lib.trimLeftS s.data.toList digS.data.toList).toArray⟩
def digB (s : ByteArray) : ByteArray := ⟨(Lib.trimS s.data.toList digS.data.toList).toArray⟩
/-- The next word is there. -/
structure WStep (s : ByteArray) : Prop where
  size : (trimL s).size ≤ 2000
  ne : ¬ wW s = ⟨#[]⟩
/-- A glued face is read. -/
structure FStep (s : ByteArray) (x : Fc) : Prop where
  w : WStep s
  w2 : WStep (wR s)
  dash : ¬ wW s = dashS
  dig : digT (wW s) = ⟨#[]⟩
  one : (wW s).size = 1
  num : Num (wW s) x.tet
  four : (wW (wR s)).size = 4
  digs : digB (wW (wR s)) = ⟨#[]⟩
  at' : ∀ i, i < 4 → x.p.at i = (byteAt (wW (wR s)) i : Int) - 48
  lo : ∀ i, i < 4 → 48 ≤ byteAt (wW (wR s)) i
def fTo (x : Fc) (i : Nat) : Array Value := #[iv x.tet, iv (if 0 < i then x.p.a0 else 0), iv (if 1 < i then x.p.a1 else 0), iv (if 2 < i then x.p.a2 else 0), iv (if 3 < i then x.p.a3 else 0)]
theorem fTo_set (x : Fc) {i : Nat} (hi : i < 4) {v : Int} (e : v = x.p.at i) : (fTo x i).setIfInBounds (1 + i * 1) (iv v) = fTo x (i + 1) := by
  subst e
  match i, hi with
  | 0, _ => rfl
  | 1, _ => rfl
  | 2, _ => rfl
  | 3, _ => rfl
def tOne : Tt := ⟨⟨0, ⟨1, 0, 2, 3⟩⟩, ⟨0, ⟨1, 0, 2, 3⟩⟩, ⟨0, ⟨0, 1, 3, 2⟩⟩, ⟨0, ⟨0, 1, 3, 2⟩⟩⟩
def gOne : Glu := [tOne]
def txtOne : ByteArray := ⟨#[49, 32, 48, 32, 49, 48, 50, 51, 32, 48, 32, 49, 48, 50, 51, 32, 48, 32, 48, 49, 51, 50, 32, 48, 32, 48, 49, 51, 50]⟩
/-- What is left ahead of a face. -/
def restAt : Nat → ByteArray
  | 0 => wR txtOne
  | k + 1 => wR (wR (restAt k))
theorem one_w : WStep txtOne := ⟨by decide +kernel, by decide +kernel⟩
theorem one_num : Num (wW txtOne) 1 := ⟨by decide, by decide, by decide +kernel⟩
theorem one_face {f : Nat} (hf : f < 4) : FStep (restAt f) (tOne.at f) := by
  match f, hf with
  | 0, _ => exact ⟨⟨by decide +kernel, by decide +kernel⟩, ⟨by decide +kernel, by decide +kernel⟩, by decide +kernel, by decide +kernel, by decide +kernel, ⟨by decide, by decide, by decide +kernel⟩, by decide +kernel, by decide +kernel, by decide +kernel, by decide +kernel⟩
  | 1, _ => exact ⟨⟨by decide +kernel, by decide +kernel⟩, ⟨by decide +kernel, by decide +kernel⟩, by decide +kernel, by decide +kernel, by decide +kernel, ⟨by decide, by decide, by decide +kernel⟩, by decide +kernel, by decide +kernel, by decide +kernel, by decide +kernel⟩
  | 2, _ => exact ⟨⟨by decide +kernel, by decide +kernel⟩, ⟨by decide +kernel, by decide +kernel⟩, by decide +kernel, by decide +kernel, by decide +kernel, ⟨by decide, by decide, by decide +kernel⟩, by decide +kernel, by decide +kernel, by decide +kernel, by decide +kernel⟩
  | 3, _ => exact ⟨⟨by decide +kernel, by decide +kernel⟩, ⟨by decide +kernel, by decide +kernel⟩, by decide +kernel, by decide +kernel, by decide +kernel, ⟨by decide, by decide, by decide +kernel⟩, by decide +kernel, by decide +kernel, by decide +kernel, by decide +kernel⟩
theorem one_end : (⟨(Lib.trimB (restAt 4).data.toList 32).toArray⟩ : ByteArray) = ⟨#[]⟩ := by decide +kernel
theorem one_end_size : (restAt 4).size ≤ 2000 := by decide +kernel
theorem one_text : textG gOne = txtOne := by decide +kernel
theorem one_ok : okG gOne = true := by decide +kernel
/-- The row that is filled. -/
def rowTo : Nat → Tt
  | 0 => ⟨⟨0, ⟨0, 0, 0, 0⟩⟩, ⟨0, ⟨0, 0, 0, 0⟩⟩, ⟨0, ⟨0, 0, 0, 0⟩⟩, ⟨0, ⟨0, 0, 0, 0⟩⟩⟩
  | f + 1 => (rowTo f).setF f (tOne.at f)
theorem rowTo_set {f : Nat} (hf : f < 4) : putAll (ttA (rowTo f)) (0 + f * 5) [iv (tOne.at f).tet, iv (tOne.at f).p.a0, iv (tOne.at f).p.a1, iv (tOne.at f).p.a2, iv (tOne.at f).p.a3] = ttA (rowTo (f + 1)) := ttA_fc _ hf _
def tFree : Tt := ⟨noF, noF, noF, noF⟩
def gFree : Glu := [tFree]
def gBad : Glu := [⟨⟨0, idP⟩, noF, noF, noF⟩]
theorem free_ok : okG gFree = true := by decide +kernel
theorem bad_no : okG gBad = false := by decide +kernel
def txtTwo : ByteArray := ⟨#[50, 32, 48, 32, 49, 48, 50, 51, 32, 48, 32, 49, 48, 50, 51, 32, 48, 32, 48, 49, 51, 50, 32, 48, 32, 48, 49, 51, 50, 32, 49, 32, 49, 48, 50, 51, 32, 49, 32, 49, 48, 50, 51, 32, 49, 32, 48, 49, 51, 50, 32, 49, 32, 48, 49, 51, 50]⟩
def txtDbl : ByteArray := ⟨#[50, 32, 49, 32, 48, 49, 50, 51, 32, 49, 32, 48, 49, 50, 51, 32, 49, 32, 48, 49, 50, 51, 32, 49, 32, 48, 49, 50, 51, 32, 48, 32, 48, 49, 50, 51, 32, 48, 32, 48, 49, 50, 51, 32, 48, 32, 48, 49, 50, 51, 32, 48, 32, 48, 49, 50, 51]⟩
theorem two_ok : okG (twoG gOne) = true := by decide +kernel
theorem dbl_ok : okG (dblG gFree) = true := by decide +kernel
theorem two_text : textG (twoG gOne) = txtTwo := by decide +kernel
theorem dbl_text : textG (dblG gFree) = txtDbl := by decide +kernel
theorem one_ori : oriG gOne = some [1] := by decide +kernel
end Go.V
/- The example with one tetrahedron: made, and read from its text. -/
namespace Go.Proofs
open Go Go.V
set_option maxRecDepth 20000
theorem in_iface20 : Tryz.prog.underlying 20 = some (.interface (Tryz.prog.methodsAt 20)) := Tryz.underlying20.trans (by kernel_rfl)
theorem in_iface108 : Tryz.prog.underlying 108 = some (.interface (Tryz.prog.methodsAt 108)) := Tryz.underlying108.trans (by kernel_rfl)

theorem lw_One (w : World) : Gives Tryz.prog 39 #[] w Nil (fun _ : Nat => True) (fun b => gluV (some ⟨b, 0, none⟩) 1 gOne) (fun b => [ownG (some ⟨b, 0, none⟩, 1) gOne]) := by
  refine fn_of_run (S := Nil) (args := []) (n := 16) (L := []) Tryz.func39 rfl Tryz.ntmps39 (Nat.le_of_ble_eq_true rfl) (Sym.nil _ _) ?_
  change RunC _ _ _ [] _
  refine RunC.seq ?_
  refine RunC.region ?_
  refine RunL.grows rfl rfl rfl (Grows.alloc rfl Tryz.zeroValue24) (fun b0 _ => ?_)
  refine RunL.nil ?_
  refine Ends.then ?_
  refine RunC.seq ?_
  refine RunC.region ?_
  refine RunL.still rfl rfl rfl (Still.build_1_1_1_1 (fun x0_0 x1_0 x2_0 x3_0 => .agg #[x0_0, x1_0, x2_0, x3_0]) rfl rfl rfl rfl rfl (fun _ => by kernel_rfl)) ?_
  refine RunL.grows rfl rfl rfl (Grows.alloc rfl Tryz.zeroValue32) (fun b1 _ => ?_)
  refine RunL.does0 rfl rfl (Does.store rfl rfl rfl (i := 0) rfl Tryz.sizeOf32 rfl (rfl) rfl) (fun _ _ => ?_)
  refine RunL.conv (fun _ hs => hs.re 0 rfl (show _ = HL.obj b1 (.cells #[iv 1, iv 0, iv 2, iv 3] 32 (0, 0)) from rfl)) ?_
  refine RunL.nil ?_
  refine Ends.then ?_
  refine RunC.seq ?_
  refine RunC.region ?_
  refine RunL.still rfl rfl rfl (Still.build_1_1_1_1 (fun x0_0 x1_0 x2_0 x3_0 => .agg #[x0_0, x1_0, x2_0, x3_0]) rfl rfl rfl rfl rfl (fun _ => by kernel_rfl)) ?_
  refine RunL.grows rfl rfl rfl (Grows.alloc rfl Tryz.zeroValue32) (fun b2 _ => ?_)
  refine RunL.does0 rfl rfl (Does.store rfl rfl rfl (i := 0) rfl Tryz.sizeOf32 rfl (rfl) rfl) (fun _ _ => ?_)
  refine RunL.conv (fun _ hs => hs.re 0 rfl (show _ = HL.obj b2 (.cells #[iv 0, iv 1, iv 3, iv 2] 32 (0, 0)) from rfl)) ?_
  refine RunL.nil ?_
  refine Ends.then ?_
  refine RunC.seq ?_
  refine RunC.region ?_
  refine RunL.still rfl rfl rfl (Still.loads rfl rfl Tryz.isAgg32 Tryz.sizeOf32 (vs := [_, _, _, _]) rfl (fun _ hs => cells_nth (hs.at (i := 1) rfl) ⟨rfl, ⟨rfl, ⟨rfl, ⟨rfl, trivial⟩⟩⟩⟩)) ?_
  refine RunL.still rfl rfl rfl (Still.build_1_4 (fun x0_0 x1_0 x1_1 x1_2 x1_3 => .agg #[x0_0, x1_0, x1_1, x1_2, x1_3]) rfl rfl rfl (fun _ => by kernel_rfl)) ?_
  refine RunL.still rfl rfl rfl (Still.loads rfl rfl Tryz.isAgg32 Tryz.sizeOf32 (vs := [_, _, _, _]) rfl (fun _ hs => cells_nth (hs.at (i := 1) rfl) ⟨rfl, ⟨rfl, ⟨rfl, ⟨rfl, trivial⟩⟩⟩⟩)) ?_
  refine RunL.still rfl rfl rfl (Still.build_1_4 (fun x0_0 x1_0 x1_1 x1_2 x1_3 => .agg #[x0_0, x1_0, x1_1, x1_2, x1_3]) rfl rfl rfl (fun _ => by kernel_rfl)) ?_
  refine RunL.still rfl rfl rfl (Still.loads rfl rfl Tryz.isAgg32 Tryz.sizeOf32 (vs := [_, _, _, _]) rfl (fun _ hs => cells_nth (hs.at (i := 0) rfl) ⟨rfl, ⟨rfl, ⟨rfl, ⟨rfl, trivial⟩⟩⟩⟩)) ?_
  refine RunL.still rfl rfl rfl (Still.build_1_4 (fun x0_0 x1_0 x1_1 x1_2 x1_3 => .agg #[x0_0, x1_0, x1_1, x1_2, x1_3]) rfl rfl rfl (fun _ => by kernel_rfl)) ?_
  refine RunL.still rfl rfl rfl (Still.loads rfl rfl Tryz.isAgg32 Tryz.sizeOf32 (vs := [_, _, _, _]) rfl (fun _ hs => cells_nth (hs.at (i := 0) rfl) ⟨rfl, ⟨rfl, ⟨rfl, ⟨rfl, trivial⟩⟩⟩⟩)) ?_
  refine RunL.still rfl rfl rfl (Still.build_1_4 (fun x0_0 x1_0 x1_1 x1_2 x1_3 => .agg #[x0_0, x1_0, x1_1, x1_2, x1_3]) rfl rfl rfl (fun _ => by kernel_rfl)) ?_
  refine RunL.still rfl rfl rfl (Still.build_5_5_5_5 (fun x0_0 x0_1 x0_2 x0_3 x0_4 x1_0 x1_1 x1_2 x1_3 x1_4 x2_0 x2_1 x2_2 x2_3 x2_4 x3_0 x3_1 x3_2 x3_3 x3_4 => .agg #[x0_0, x0_1, x0_2, x0_3, x0_4, x1_0, x1_1, x1_2, x1_3, x1_4, x2_0, x2_1, x2_2, x2_3, x2_4, x3_0, x3_1, x3_2, x3_3, x3_4]) rfl rfl rfl rfl rfl (fun _ => by kernel_rfl)) ?_
  refine RunL.grows rfl rfl rfl (Grows.slice1 rfl rfl Tryz.underlying22 Tryz.sizeOf35 rfl Tryz.zeroValue35 (by decide)) (fun b14 _ => ?_)
  refine RunL.conv (fun _ hs => Sym.obj_own (k := 20) (n := 1) hs rfl (by omega)) ?_
  refine RunL.still rfl rfl rfl (Still.build_1 (fun x0_0 => .agg #[x0_0]) rfl rfl (fun _ => by kernel_rfl)) ?_
  refine RunL.does0 rfl rfl (Does.store rfl rfl rfl (i := 3) rfl Tryz.sizeOf24 rfl (rfl) rfl) (fun _ _ => ?_)
  refine RunL.nil ?_
  refine Ends.then ?_
  refine RunC.ret ?_
  refine Ends.leave (.inl rfl) (fun _ _ ok => results1 Tryz.results39 (Holds.cell rfl (fun _ hs => load_cells (vs := [_]) Tryz.isAgg24 Tryz.sizeOf24 rfl (cells_nth (hs.at (i := 3) rfl) ⟨rfl, trivial⟩))) ok) (fun w1 hs => ?_)
  exact Ret.intro b14 trivial rfl (HSub.pick 0 rfl (HSub.nil _)) hs

theorem gl_word (b : Nat) (s : ByteArray) (w : World) (hr : (HL.obj b (.cells #[.string s] 91 (0, 0))).holds w) (hb : b < w.heap.size) {w00 : World} (he : Env w00) (hO : Old Nil w00 w) (hf0 : w00.heap.size ≤ b) (hw : WStep s) : Gives Tryz.prog 65 #[ptrV b] w (fun c => c = b) (fun _ : Unit => True) (fun _ => .string (wW s)) (fun _ => [HL.obj b (.cells #[.string (wR s)] 91 (0, 0))]) := by
  refine fn_of_run (S := (fun c => c = b)) (args := [ptrV b]) (n := 32) (L := [HL.obj b (.cells #[.string s] 91 (0, 0))]) Tryz.func65 rfl Tryz.ntmps65 (Nat.le_of_ble_eq_true rfl) (Sym.own1 hr (fun c hc => by have e : c = b := hc; omega)) ?_
  change RunC _ _ _ [(0, _)] _
  refine RunC.seq ?_
  refine RunC.region ?_
  refine RunL.still rfl rfl rfl (Still.assign rfl rfl) ?_
  refine RunL.nil ?_
  refine Ends.then ?_
  refine RunC.seq ?_
  refine RunC.region ?_
  refine RunL.still rfl rfl rfl (Still.move rfl rfl) ?_
  refine RunL.still rfl rfl rfl (Still.move rfl rfl) ?_
  refine RunL.still rfl rfl rfl (Still.nilCheck rfl rfl) ?_
  refine RunL.still rfl rfl rfl (Still.fieldAddrL (off := 0) (off' := 0) rfl rfl Tryz.underlying89 rfl Tryz.sizeOf9 rfl) ?_
  refine RunL.still rfl rfl rfl (Still.load rfl rfl Tryz.isAgg9 (fun _ hs => cell_nth (hs.at (i := 0) rfl) rfl)) ?_
  refine RunL.grows rfl rfl rfl (Grows.call (vs := #[_, _]) rfl rfl Tryz.call77 (fun w hs => z_TrimLeft1 s w)) (fun _ _ => ?_)
  refine RunL.still rfl rfl rfl (Still.nilCheck rfl rfl) ?_
  refine RunL.still rfl rfl rfl (Still.fieldAddrL (off := 0) (off' := 0) rfl rfl Tryz.underlying89 rfl Tryz.sizeOf9 rfl) ?_
  refine RunL.does0 rfl rfl (Does.store1 rfl rfl rfl (i := 0) rfl Tryz.sizeOf9 (rfl) (rfl)) (fun _ _ => ?_)
  refine RunL.nil ?_
  refine Ends.then ?_
  refine RunC.seq ?_
  refine RunC.region ?_
  refine RunL.still rfl rfl rfl (Still.move rfl rfl) ?_
  refine RunL.still rfl rfl rfl (Still.nilCheck rfl rfl) ?_
  refine RunL.still rfl rfl rfl (Still.fieldAddrL (off := 0) (off' := 0) rfl rfl Tryz.underlying89 rfl Tryz.sizeOf9 rfl) ?_
  refine RunL.still rfl rfl rfl (Still.load rfl rfl Tryz.isAgg9 (fun _ hs => cell_nth (hs.at (i := 0) rfl) rfl)) ?_
  refine RunL.grows rfl rfl rfl (Grows.call (vs := #[_, _]) rfl rfl Tryz.call78 (fun w hs => z_Cut (trimL s) spS w (he.old (hs.outer hO (fun c hc => .inl (by have e : c = b := hc; omega)))) (by have := hw.size; omega))) (fun _ _ => ?_)
  refine RunL.still rfl rfl rfl (Still.move rfl rfl) ?_
  refine RunL.still rfl rfl rfl (Still.extractN rfl rfl rfl) ?_
  refine RunL.still rfl rfl rfl (Still.extractN rfl rfl rfl) ?_
  refine RunL.still rfl rfl rfl (Still.extractN rfl rfl rfl) ?_
  refine RunL.still rfl rfl rfl (Still.assign rfl rfl) ?_
  refine RunL.still rfl rfl rfl (Still.assign rfl rfl) ?_
  refine RunL.still rfl rfl rfl (Still.assign rfl rfl) ?_
  refine RunL.nil ?_
  refine Ends.then ?_
  refine RunC.seq ?_
  refine RunC.seq ?_
  refine RunC.region ?_
  refine RunL.still rfl rfl rfl (Still.move rfl rfl) ?_
  refine RunL.still rfl rfl rfl (Still.eqlStrD rfl rfl rfl) ?_
  refine RunL.nil ?_
  refine Ends.then ?_
  refine RunC.cond rfl (fun h24 => ?_) (fun h24 => ?_)
  · have h24 := of_decide_eq_true h24
    exact absurd h24 hw.ne
  · have h24 := of_decide_eq_false h24
    refine RunC.skip ?_
    refine Ends.then ?_
    refine RunC.seq ?_
    refine RunC.region ?_
    refine RunL.still rfl rfl rfl (Still.move rfl rfl) ?_
    refine RunL.still rfl rfl rfl (Still.move rfl rfl) ?_
    refine RunL.still rfl rfl rfl (Still.nilCheck rfl rfl) ?_
    refine RunL.still rfl rfl rfl (Still.fieldAddrL (off := 0) (off' := 0) rfl rfl Tryz.underlying89 rfl Tryz.sizeOf9 rfl) ?_
    refine RunL.does0 rfl rfl (Does.store1 rfl rfl rfl (i := 0) rfl Tryz.sizeOf9 (rfl) (rfl)) (fun _ _ => ?_)
    refine RunL.nil ?_
    refine Ends.then ?_
    refine RunC.seq ?_
    refine RunC.region ?_
    refine RunL.still rfl rfl rfl (Still.move rfl rfl) ?_
    refine RunL.still rfl rfl rfl (Still.assign rfl rfl) ?_
    refine RunL.nil ?_
    refine Ends.then ?_
    refine RunC.ret ?_
    refine Ends.leave (.inl rfl) (fun _ _ ok => results1 Tryz.results65 (Holds.tmp rfl) ok) (fun w1 hs => ?_)
    exact Ret.intro () trivial rfl (HSub.pick 0 rfl (HSub.nil _)) hs

theorem gl_number (b : Nat) (s : ByteArray) (v most : Int) (w : World) (he : Env w) (hv : Num s v) (hm : v ≤ most) : Gives Tryz.prog 64 #[ptrV b, .string s, iv most] w Nil (fun _ : Unit => True) (fun _ => iv v) (fun _ => []) := by
  have hz := hv.size
  refine fn_of_run (S := Nil) (args := [ptrV b, .string s, iv most]) (n := 34) (L := []) Tryz.func64 rfl Tryz.ntmps64 (Nat.le_of_ble_eq_true rfl) (Sym.nil _ _) ?_
  change RunC _ _ _ [(0, _), (1, _), (2, _)] _
  refine RunC.seq ?_
  refine RunC.region ?_
  refine RunL.still rfl rfl rfl (Still.assign rfl rfl) ?_
  refine RunL.nil ?_
  refine Ends.then ?_
  refine RunC.seq ?_
  refine RunC.region ?_
  refine RunL.still rfl rfl rfl (Still.move rfl rfl) ?_
  refine RunL.grows rfl rfl rfl (Grows.call (vs := #[_]) rfl rfl Tryz.call76 (fun w hs => z_Atoi s v w (by omega) hv.atoi)) (fun _ _ => ?_)
  refine RunL.still rfl rfl rfl (Still.move rfl rfl) ?_
  refine RunL.still rfl rfl rfl (Still.extractN rfl rfl rfl) ?_
  refine RunL.still rfl rfl rfl (Still.extractN rfl rfl rfl) ?_
  refine RunL.still rfl rfl rfl (Still.assign rfl rfl) ?_
  refine RunL.still rfl rfl rfl (Still.assign rfl rfl) ?_
  refine RunL.nil ?_
  refine Ends.then ?_
  refine RunC.seq ?_
  refine RunC.seq ?_
  refine RunC.region ?_
  refine RunL.still rfl rfl rfl (Still.move rfl rfl) ?_
  refine RunL.still rfl rfl rfl (Still.neqNilN rfl rfl in_iface108) ?_
  refine RunL.still rfl rfl rfl (Still.move rfl rfl) ?_
  refine RunL.still rfl rfl rfl (Still.move rfl rfl) ?_
  refine RunL.grows rfl rfl rfl (Grows.call (vs := #[_]) rfl rfl Tryz.call57 (fun w hs => z_ItoaP v w (he.sym hs) hv.1 (by have := hv.2.1; omega))) (fun _ _ => ?_)
  refine RunL.still rfl rfl rfl (Still.move rfl rfl) ?_
  refine RunL.still rfl rfl rfl (Still.neqStrD rfl rfl rfl) ?_
  refine RunL.still rfl rfl rfl (Still.pickF rfl rfl rfl) ?_
  refine RunL.still rfl rfl rfl (Still.move rfl rfl) ?_
  refine RunL.split (t := 22) rfl (fun h22 => ?_) (fun h22 => ?_)
  · have h22 := of_decide_eq_true h22
    exact absurd hv.2.2.symm h22
  · have h22 := of_decide_eq_false h22
    refine RunL.still rfl rfl rfl (Still.move rfl rfl) ?_
    refine RunL.still rfl rfl rfl (Still.lss rfl rfl rfl) ?_
    refine RunL.still rfl rfl rfl (Still.pickF rfl rfl rfl) ?_
    refine RunL.still rfl rfl rfl (Still.move rfl rfl) ?_
    refine RunL.split (t := 26) rfl (fun h26 => ?_) (fun h26 => ?_)
    · have h26 := of_decide_eq_true h26
      have h1 := hv.1; omega
    · have h26 := of_decide_eq_false h26
      refine RunL.still rfl rfl rfl (Still.move rfl rfl) ?_
      refine RunL.still rfl rfl rfl (Still.move rfl rfl) ?_
      refine RunL.still rfl rfl rfl (Still.gtr rfl rfl rfl) ?_
      refine RunL.still rfl rfl rfl (Still.pickF rfl rfl rfl) ?_
      refine RunL.nil ?_
      refine Ends.then ?_
      refine RunC.cond rfl (fun h30 => ?_) (fun h30 => ?_)
      · have h30 := of_decide_eq_true h30
        omega
      · have h30 := of_decide_eq_false h30
        refine RunC.skip ?_
        refine Ends.then ?_
        refine RunC.seq ?_
        refine RunC.region ?_
        refine RunL.still rfl rfl rfl (Still.move rfl rfl) ?_
        refine RunL.still rfl rfl rfl (Still.assign rfl rfl) ?_
        refine RunL.nil ?_
        refine Ends.then ?_
        refine RunC.ret ?_
        refine Ends.leave (.inl rfl) (fun _ _ ok => results1 Tryz.results64 (Holds.tmp rfl) ok) (fun w1 hs => ?_)
        exact Ret.intro () trivial rfl (HSub.nil _) hs

theorem gl_face (b : Nat) (s : ByteArray) (x : Fc) (w : World) (hr : (HL.obj b (.cells #[.string s] 91 (0, 0))).holds w) (hb : b < w.heap.size) {w00 : World} (he : Env w00) (hO : Old Nil w00 w) (hf0 : w00.heap.size ≤ b) (hx : FStep s x) : Gives Tryz.prog 66 #[ptrV b] w (fun c => c = b) (fun _ : Unit => True) (fun _ => fcV x) (fun _ => [HL.obj b (.cells #[.string (wR (wR s))] 91 (0, 0))]) := by
  have hnum := hx.num
  have h1s := hx.one
  refine fn_of_run (S := (fun c => c = b)) (args := [ptrV b]) (n := 66) (L := [HL.obj b (.cells #[.string s] 91 (0, 0))]) Tryz.func66 rfl Tryz.ntmps66 (Nat.le_of_ble_eq_true rfl) (Sym.own1 hr (fun c hc => by have e : c = b := hc; omega)) ?_
  change RunC _ _ _ [(0, _)] _
  refine RunC.seq ?_
  refine RunC.region ?_
  refine RunL.grows rfl rfl rfl (Grows.alloc rfl Tryz.zeroValue34) (fun b2 _ => ?_)
  refine RunL.nil ?_
  refine Ends.then ?_
  refine RunC.seq ?_
  refine RunC.region ?_
  refine RunL.still rfl rfl rfl (Still.move rfl rfl) ?_
  refine RunL.still rfl rfl rfl (Still.nilCheck rfl rfl) ?_
  refine RunL.still rfl rfl rfl (Still.fieldAddrL (off := 0) (off' := 0) rfl rfl Tryz.underlying91 rfl Tryz.sizeOf89 rfl) ?_
  refine RunL.does rfl rfl rfl (Does.call (vs := #[_]) (K := [_]) (R := [_]) (S' := (fun c => c = b)) rfl rfl Tryz.call65 (HSub.pick 1 rfl (HSub.pick 0 rfl (HSub.nil _))) (fun c hc => ⟨_, List.mem_cons_self .., hc⟩) (fun w hs => gl_word b s w (hs.at (i := 0) rfl) (hs.lt (i := 0) rfl) he (hs.outer hO (fun c hc => .inl (by have e : c = b := hc; omega))) hf0 hx.w)) (fun _ _ => ?_)
  refine RunL.still rfl rfl rfl (Still.assign rfl rfl) ?_
  refine RunL.nil ?_
  refine Ends.then ?_
  refine RunC.seq ?_
  refine RunC.seq ?_
  refine RunC.region ?_
  refine RunL.still rfl rfl rfl (Still.move rfl rfl) ?_
  refine RunL.still rfl rfl rfl (Still.eqlStrD rfl rfl rfl) ?_
  refine RunL.nil ?_
  refine Ends.then ?_
  refine RunC.cond rfl (fun h13 => ?_) (fun h13 => ?_)
  · have h13 := of_decide_eq_true h13
    exact absurd h13 hx.dash
  · have h13 := of_decide_eq_false h13
    refine RunC.skip ?_
    refine Ends.then ?_
    refine RunC.seq ?_
    refine RunC.region ?_
    refine RunL.still rfl rfl rfl (Still.move rfl rfl) ?_
    refine RunL.grows rfl rfl rfl (Grows.call (vs := #[_, _]) rfl rfl Tryz.call77 (fun w hs => z_TrimLeftD (wW s) w)) (fun _ _ => ?_)
    refine RunL.still rfl rfl rfl (Still.assign rfl rfl) ?_
    refine RunL.nil ?_
    refine Ends.then ?_
    refine RunC.seq ?_
    refine RunC.seq ?_
    refine RunC.region ?_
    refine RunL.still rfl rfl rfl (Still.move rfl rfl) ?_
    refine RunL.still rfl rfl rfl (Still.neqStrD rfl rfl rfl) ?_
    refine RunL.still rfl rfl rfl (Still.move rfl rfl) ?_
    refine RunL.split (t := 19) rfl (fun h19 => ?_) (fun h19 => ?_)
    · have h19 := of_decide_eq_true h19
      exact absurd hx.dig h19
    · have h19 := of_decide_eq_false h19
      refine RunL.still rfl rfl rfl (Still.move rfl rfl) ?_
      refine RunL.still rfl rfl rfl (Still.lenStr rfl rfl Tryz.underlying9) ?_
      refine RunL.still rfl rfl rfl (Still.gtr rfl rfl rfl) ?_
      refine RunL.still rfl rfl rfl (Still.move rfl rfl) ?_
      refine RunL.split (t := 23) rfl (fun h23 => ?_) (fun h23 => ?_)
      · have h23 := of_decide_eq_true h23
        omega
      · have h23 := of_decide_eq_false h23
        refine RunL.off rfl rfl rfl ?_
        refine RunL.off rfl rfl rfl ?_
        refine RunL.off rfl rfl rfl ?_
        refine RunL.still rfl rfl rfl (Still.pickF rfl rfl rfl) ?_
        refine RunL.still rfl rfl rfl (Still.pickF rfl rfl rfl) ?_
        refine RunL.nil ?_
        refine Ends.then ?_
        refine RunC.cond_false rfl ?_
        refine RunC.skip ?_
        refine Ends.then ?_
        refine RunC.seq ?_
        refine RunC.region ?_
        refine RunL.still rfl rfl rfl (Still.build_1 (fun x0_0 => .agg #[x0_0, .int .i64 0, .int .i64 0, .int .i64 0, .int .i64 0]) rfl rfl (fun _ => by kernel_rfl)) ?_
        refine RunL.grows rfl rfl rfl (Grows.alloc rfl Tryz.zeroValue34) (fun b5 _ => ?_)
        refine RunL.does0 rfl rfl (Does.store rfl rfl rfl (i := 0) rfl Tryz.sizeOf34 rfl (rfl) rfl) (fun _ _ => ?_)
        refine RunL.conv (fun _ hs => hs.re 0 rfl (show _ = HL.obj b5 (.cells #[iv 1000, iv 0, iv 0, iv 0, iv 0] 34 (0, 0)) from rfl)) ?_
        refine RunL.nil ?_
        refine Ends.then ?_
        refine RunC.seq ?_
        refine RunC.seq ?_
        refine RunC.region ?_
        refine RunL.still rfl rfl rfl (Still.move rfl rfl) ?_
        refine RunL.still rfl rfl rfl (Still.lenStr rfl rfl Tryz.underlying9) ?_
        refine RunL.still rfl rfl rfl (Still.leq rfl rfl rfl) ?_
        refine RunL.nil ?_
        refine Ends.then ?_
        refine RunC.cond rfl (fun h34 => ?_) (fun h34 => ?_)
        · have h34 := of_decide_eq_true h34
          refine RunC.region ?_
          refine RunL.still rfl rfl rfl (Still.move rfl rfl) ?_
          refine RunL.still rfl rfl rfl (Still.move rfl rfl) ?_
          refine RunL.grows rfl rfl rfl (Grows.call (vs := #[_, _, _]) rfl rfl Tryz.call64 (fun w hs => gl_number b (wW s) x.tet 9999 w (he.old (hs.outer hO (fun c hc => .inl (by have e : c = b := hc; omega)))) hx.num (by have := hx.num.2.1; omega))) (fun _ _ => ?_)
          refine RunL.still rfl rfl rfl (Still.fieldAddrL (off := 0) (off' := 0) rfl rfl Tryz.underlying34 rfl Tryz.sizeOf3 rfl) ?_
          refine RunL.does0 rfl rfl (Does.store1 rfl rfl rfl (i := 0) rfl Tryz.sizeOf3 (rfl) (rfl)) (fun _ _ => ?_)
          refine RunL.conv (fun _ hs => hs.re 0 rfl (show _ = HL.obj b5 (.cells #[iv x.tet, iv 0, iv 0, iv 0, iv 0] 34 (0, 0)) from rfl)) ?_
          refine RunL.nil ?_
          refine Ends.then ?_
          refine RunC.seq ?_
          refine RunC.region ?_
          refine RunL.still rfl rfl rfl (Still.move rfl rfl) ?_
          refine RunL.still rfl rfl rfl (Still.nilCheck rfl rfl) ?_
          refine RunL.still rfl rfl rfl (Still.fieldAddrL (off := 0) (off' := 0) rfl rfl Tryz.underlying91 rfl Tryz.sizeOf89 rfl) ?_
          refine RunL.does rfl rfl rfl (Does.call (vs := #[_]) (K := [_]) (R := [_, _]) (S' := (fun c => c = b)) rfl rfl Tryz.call65 (HSub.pick 1 rfl (HSub.pick 0 rfl (HSub.pick 0 rfl (HSub.nil _)))) (fun c hc => ⟨_, List.mem_cons_self .., hc⟩) (fun w hs => gl_word b (wR s) w (hs.at (i := 0) rfl) (hs.lt (i := 0) rfl) he (hs.outer hO (fun c hc => .inl (by have e : c = b := hc; omega))) hf0 hx.w2)) (fun _ _ => ?_)
          refine RunL.still rfl rfl rfl (Still.assign rfl rfl) ?_
          refine RunL.nil ?_
          refine Ends.then ?_
          refine RunC.seq ?_
          refine RunC.seq ?_
          refine RunC.region ?_
          refine RunL.still rfl rfl rfl (Still.move rfl rfl) ?_
          refine RunL.still rfl rfl rfl (Still.lenStr rfl rfl Tryz.underlying9) ?_
          refine RunL.still rfl rfl rfl (Still.neq rfl rfl rfl) ?_
          refine RunL.still rfl rfl rfl (Still.move rfl rfl) ?_
          refine RunL.split (t := 46) rfl (fun h46 => ?_) (fun h46 => ?_)
          · have h46 := of_decide_eq_true h46
            have := hx.four; omega
          · have h46 := of_decide_eq_false h46
            refine RunL.still rfl rfl rfl (Still.move rfl rfl) ?_
            refine RunL.grows rfl rfl rfl (Grows.call (vs := #[_, _]) rfl rfl Tryz.call67 (fun w hs => z_TrimD (wW (wR s)) w (by have := hx.four; omega))) (fun _ _ => ?_)
            refine RunL.still rfl rfl rfl (Still.neqStrD rfl rfl rfl) ?_
            refine RunL.still rfl rfl rfl (Still.pickF rfl rfl rfl) ?_
            refine RunL.nil ?_
            refine Ends.then ?_
            refine RunC.cond rfl (fun h50 => ?_) (fun h50 => ?_)
            · have h50 := of_decide_eq_true h50
              exact absurd hx.digs h50
            · have h50 := of_decide_eq_false h50
              refine RunC.skip ?_
              refine Ends.then ?_
              refine RunC.seq ?_
              refine RunC.seq ?_
              refine RunC.region ?_
              refine RunL.still rfl rfl rfl (Still.move rfl rfl) ?_
              refine RunL.nil ?_
              refine Ends.then ?_
              refine RunC.block ?_
              refine RunC.loop2 (γ := Nat) (keep := [(2, _), (5, _), (6, _)]) (hkeep := [_, _]) (fun i => i ≤ 4) (fun i => 4 - i) (fun i => [(53, iv i)]) (fun i => [HL.obj b5 (.cells (fTo x i) 34 (0, 0))]) 0 (by omega) (Fr.Sub.cons rfl (Fr.Sub.nil _)) (Fr.Sub.cons rfl (Fr.Sub.cons rfl (Fr.Sub.cons rfl (Fr.Sub.nil _)))) (HSub.pick 1 rfl (HSub.pick 0 rfl (HSub.pick 0 rfl (HSub.nil _)))) ?_
              rintro i hi
              refine RunC.seq ?_
              refine RunC.region ?_
              refine RunL.still rfl rfl rfl (Still.lss rfl rfl rfl) ?_
              refine RunL.nil ?_
              refine Ends.then ?_
              refine RunC.seq ?_
              refine RunC.cond rfl (fun h54 => ?_) (fun h54 => ?_)
              · have h54 := of_decide_eq_true h54
                have hi4 : i < 4 := by omega
                have hlo := hx.lo i hi4
                have hby := byteAt_lt (wW (wR s)) i
                have hxf := hx.four
                refine RunC.skip ?_
                refine Ends.then ?_
                refine RunC.seq ?_
                refine RunC.block ?_
                refine RunC.seq ?_
                refine RunC.region ?_
                refine RunL.still rfl rfl rfl (Still.move rfl rfl) ?_
                refine RunL.still rfl rfl rfl (Still.assign rfl rfl) ?_
                refine RunL.nil ?_
                refine Ends.then ?_
                refine RunC.region ?_
                refine RunL.still rfl rfl rfl (Still.move rfl rfl) ?_
                refine RunL.still rfl rfl rfl (Still.move rfl rfl) ?_
                refine RunL.still rfl rfl rfl (Still.move rfl rfl) ?_
                refine RunL.still rfl rfl rfl (Still.indexStrB (i) rfl rfl rfl Tryz.underlying9 (by omega)) ?_
                refine RunL.still rfl rfl rfl (Still.sub rfl rfl rfl (fits8 (by omega) (by omega))) ?_
                refine RunL.still rfl rfl rfl (Still.convInt rfl rfl ((congrArg Option.isSome Tryz.underlying5).trans rfl) Tryz.underlying3 (wrap_i64 (by omega) (by omega))) ?_
                refine RunL.still rfl rfl rfl (Still.fieldAddrL (off := 0) (off' := 1) rfl rfl Tryz.underlying34 rfl Tryz.sizeOf32 rfl) ?_
                refine RunL.still rfl rfl rfl (Still.indexArrNL rfl rfl rfl Tryz.underlying32 Tryz.sizeOf3 (by omega)) ?_
                refine RunL.does0 rfl rfl (Does.store1 rfl rfl rfl (i := 0) rfl Tryz.sizeOf3 rfl (Nat.ble_eq_true_of_le (show 1 + i * 1 + 1 ≤ 5 by omega))) (fun _ _ => ?_)
                refine RunL.conv (fun _ hs => hs.re 0 rfl (show _ = HL.obj b5 (.cells (fTo x (i + 1)) 34 (0, 0)) from congrArg (fun z => HL.obj b5 (.cells z 34 (0, 0))) (fTo_set x hi4 (hx.at' i hi4).symm))) ?_
                refine RunL.nil ?_
                refine Ends.block ?_
                refine Ends.then ?_
                refine RunC.region ?_
                refine RunL.still rfl rfl rfl (Still.add rfl rfl rfl (fits64 (by omega) (by omega))) ?_
                refine RunL.still rfl rfl rfl (Still.move rfl rfl) ?_
                refine RunL.nil ?_
                refine Ends.again (i + 1) ?_ ?_ (Fr.Sub.app ?_ ?_) ?_
                · show _; omega
                · show _ < _; omega
                · exact Fr.Sub.cons rfl (Fr.Sub.nil _)
                · exact Fr.Sub.cons rfl (Fr.Sub.cons rfl (Fr.Sub.cons rfl (Fr.Sub.nil _)))
                · exact HSub.pick 0 rfl (HSub.pick 0 rfl (HSub.pick 0 rfl (HSub.nil _)))
              · have h54 := of_decide_eq_false h54
                obtain rfl : i = 4 := by omega
                refine RunC.exit ?_
                refine Ends.then_exit ?_
                refine Ends.then_exit ?_
                refine Ends.block_exit ?_
                refine Ends.then ?_
                refine RunC.seq ?_
                refine RunC.region ?_
                refine RunL.still rfl rfl rfl (Still.loads rfl rfl Tryz.isAgg34 Tryz.sizeOf34 (vs := [_, _, _, _, _]) rfl (fun _ hs => cells_nth (hs.at (i := 0) rfl) ⟨rfl, ⟨rfl, ⟨rfl, ⟨rfl, ⟨rfl, trivial⟩⟩⟩⟩⟩)) ?_
                refine RunL.does0 rfl rfl (Does.store rfl rfl rfl (i := 2) rfl Tryz.sizeOf34 rfl (rfl) rfl) (fun _ _ => ?_)
                refine RunL.nil ?_
                refine Ends.then ?_
                refine RunC.ret ?_
                refine Ends.leave (.inl rfl) (fun _ _ ok => results1 Tryz.results66 (Holds.cell rfl (fun _ hs => load_cells (vs := [_, _, _, _, _]) Tryz.isAgg34 Tryz.sizeOf34 rfl (cells_nth (hs.at (i := 2) rfl) ⟨rfl, ⟨rfl, ⟨rfl, ⟨rfl, ⟨rfl, trivial⟩⟩⟩⟩⟩))) ok) (fun w1 hs => ?_)
                exact Ret.intro () trivial rfl (HSub.pick 1 rfl (HSub.nil _)) hs
        · have h34 := of_decide_eq_false h34
          omega

theorem parse_ret (ba bb : Nat) (v e : Value) {w0 : World} {S0 : Nat → Prop} (w : World) (hs : Sym w0 S0 [HL.obj ba (.cells #[v] 24 (0, 0)), HL.obj bb (.cells #[e] 27 (0, 0))] w) : CallsBack Tryz.prog 63 #[ptrV ba, ptrV bb] .returning .returning w (fun c => ∃ k ∈ [HL.obj ba (.cells #[v] 24 (0, 0)), HL.obj bb (.cells #[e] 27 (0, 0))], k.supp c) [HL.obj ba (.cells #[v] 24 (0, 0)), HL.obj bb (.cells #[e] 27 (0, 0))] := by
  refine callsBack_recover (args := [ptrV ba, ptrV bb]) (n := 17) Tryz.func63 rfl rfl rfl rfl rfl rfl rfl Tryz.ntmps63 (Nat.le_of_ble_eq_true rfl) rfl rfl Tryz.results63 hs.hand rfl ?_
  change RunC _ _ _ [(2, _), (5, _), (0, _), (1, _)] _
  refine RunC.seq ?_
  refine RunC.region ?_
  refine RunL.still rfl rfl rfl (Still.move rfl rfl) ?_
  refine RunL.still rfl rfl rfl (Still.neqNilN rfl rfl in_iface20) ?_
  refine RunL.nil ?_
  refine Ends.then ?_
  refine RunC.cond_false rfl ?_
  refine RunC.skip ?_
  exact Ends.back (.inr rfl) rfl (HSub.pick 0 rfl (HSub.pick 0 rfl (HSub.nil _)))

theorem gl_Parse_one (w : World) (he : Env w) : Gives Tryz.prog 29 #[.string txtOne] w Nil (fun q : Option Addr × Nat => OKB q gOne.length) (fun q => .tuple #[gluV q.1 q.2 gOne, iv 0]) (fun q => [ownG q gOne]) := by
  refine fn_of_runD (S := Nil) (args := [.string txtOne]) (n := 57) (L := []) Tryz.func29 rfl Tryz.ntmps29 (Nat.le_of_ble_eq_true rfl) (Sym.nil _ _) ?_
  change RunC _ _ _ [(0, _)] _
  refine RunC.seq ?_
  refine RunC.region ?_
  refine RunL.grows rfl rfl rfl (Grows.alloc rfl Tryz.zeroValue24) (fun b2 _ => ?_)
  refine RunL.own_nil 35 20 ?_
  refine RunL.grows rfl rfl rfl (Grows.alloc rfl Tryz.zeroValue27) (fun b3 _ => ?_)
  refine RunL.nil ?_
  refine Ends.then ?_
  refine RunC.seq ?_
  refine RunC.seq ?_
  refine RunC.region ?_
  refine RunL.still rfl rfl rfl (Still.move rfl rfl) ?_
  refine RunL.still rfl rfl rfl (Still.lenStr rfl rfl Tryz.underlying9) ?_
  refine RunL.still rfl rfl rfl (Still.gtr rfl rfl rfl) ?_
  refine RunL.nil ?_
  refine Ends.then ?_
  refine RunC.cond rfl (fun h11 => ?_) (fun h11 => ?_)
  · have h11 := of_decide_eq_true h11
    exact absurd h11 (by decide +kernel)
  · have h11 := of_decide_eq_false h11
    refine RunC.skip ?_
    refine Ends.then ?_
    refine RunC.seq ?_
    refine RunC.region ?_
    refine RunL.still rfl rfl rfl (Still.makeFunc (vs := #[_, _]) rfl rfl) ?_
    refine RunL.defer rfl rfl rfl rfl rfl ?_
    refine RunL.nil ?_
    refine Ends.then ?_
    refine RunC.seq ?_
    refine RunC.region ?_
    refine RunL.still rfl rfl rfl (Still.move rfl rfl) ?_
    refine RunL.still rfl rfl rfl (Still.build_1 (fun x0_0 => .agg #[x0_0]) rfl rfl (fun _ => by kernel_rfl)) ?_
    refine RunL.still rfl rfl rfl (Still.build_1 (fun _ => .agg #[.string txtOne]) rfl rfl (fun _ => by kernel_rfl)) ?_
    refine RunL.grows rfl rfl rfl (Grows.box rfl rfl) (fun b17 _ => ?_)
    refine RunL.still rfl rfl rfl (Still.assign rfl rfl) ?_
    refine RunL.nil ?_
    refine Ends.then ?_
    refine RunC.seq ?_
    refine RunC.region ?_
    refine RunL.still rfl rfl rfl (Still.move rfl rfl) ?_
    refine RunL.still rfl rfl rfl (Still.move rfl rfl) ?_
    refine RunL.still rfl rfl rfl (Still.nilCheck rfl rfl) ?_
    refine RunL.still rfl rfl rfl (Still.fieldAddrL (off := 0) (off' := 0) rfl rfl Tryz.underlying91 rfl Tryz.sizeOf89 rfl) ?_
    refine RunL.does rfl rfl rfl (Does.call (vs := #[_]) (K := [_]) (R := [_, _, _]) (S' := (fun c => c = b17)) rfl rfl Tryz.call65 (HSub.pick 0 rfl (HSub.pick 0 rfl (HSub.pick 0 rfl (HSub.pick 0 rfl (HSub.nil _))))) (fun c hc => ⟨_, List.mem_cons_self .., hc⟩) (fun w hs => gl_word b17 txtOne w (hs.at (i := 0) rfl) (hs.lt (i := 0) rfl) he hs.old ((hs.supp _ (List.mem_of_getElem? (i := 0) rfl) b17 rfl).2.resolve_right (fun h => h)) one_w)) (fun _ _ => ?_)
    refine RunL.grows rfl rfl rfl (Grows.call (vs := #[_, _, _]) rfl rfl Tryz.call64 (fun w hs => gl_number b17 (wW txtOne) 1 1000 w (he.sym hs) one_num (by decide))) (fun _ _ => ?_)
    refine RunL.still rfl rfl rfl (Still.assign rfl rfl) ?_
    refine RunL.nil ?_
    refine Ends.then ?_
    refine RunC.seq ?_
    refine RunC.seq ?_
    refine RunC.region ?_
    refine RunL.still rfl rfl rfl (Still.move rfl rfl) ?_
    refine RunL.still rfl rfl rfl (Still.move rfl rfl) ?_
    refine RunL.nil ?_
    refine Ends.then ?_
    refine RunC.block ?_
    refine RunC.loop2 (γ := Value × Nat) (keep := [(2, _), (3, _), (4, _), (24, _)]) (hkeep := [_]) (fun (v, c) => c ≤ 1) (fun (v, c) => 1 - c) (fun (v, c) => [(25, iv c)]) (fun (v, c) => [HL.obj b2 (.cells #[v] 24 (0, 0)), HL.own 35 20 v c ((gOne.take c).flatMap encT), HL.obj b17 (.cells #[.string (restAt (4 * c))] 91 (0, 0))]) (.slice none 0 0, 0) (by omega) (Fr.Sub.cons rfl (Fr.Sub.nil _)) (Fr.Sub.cons rfl (Fr.Sub.cons rfl (Fr.Sub.cons rfl (Fr.Sub.cons rfl (Fr.Sub.nil _))))) (HSub.pick 3 rfl (HSub.pick 2 rfl (HSub.pick 0 rfl (HSub.pick 0 rfl (HSub.nil _))))) ?_
    rintro ⟨v, c⟩ hc
    have hc : c ≤ 1 := hc
    refine RunC.seq ?_
    refine RunC.region ?_
    refine RunL.still rfl rfl rfl (Still.lss rfl rfl rfl) ?_
    refine RunL.nil ?_
    refine Ends.then ?_
    refine RunC.seq ?_
    refine RunC.cond rfl (fun h26 => ?_) (fun h26 => ?_)
    · have h26 := of_decide_eq_true h26
      obtain rfl : c = 0 := by omega
      refine RunC.skip ?_
      refine Ends.then ?_
      refine RunC.seq ?_
      refine RunC.block ?_
      refine RunC.seq ?_
      refine RunC.region ?_
      refine RunL.grows rfl rfl rfl (Grows.alloc rfl Tryz.zeroValue35) (fun b6 _ => ?_)
      refine RunL.nil ?_
      refine Ends.then ?_
      refine RunC.seq ?_
      refine RunC.seq ?_
      refine RunC.region ?_
      refine RunL.still rfl rfl rfl (Still.move rfl rfl) ?_
      refine RunL.nil ?_
      refine Ends.then ?_
      refine RunC.block ?_
      refine RunC.loop2 (γ := Nat) (keep := [(2, _), (3, _), (4, _), (6, _), (24, _), (25, _)]) (hkeep := [_, _, _]) (fun f => f ≤ 4) (fun f => 4 - f) (fun f => [(27, iv f)]) (fun f => [HL.obj b6 (.cells (ttA (rowTo f)) 35 (0, 0)), HL.obj b17 (.cells #[.string (restAt f)] 91 (0, 0))]) 0 (by omega) (Fr.Sub.cons rfl (Fr.Sub.nil _)) (Fr.Sub.cons rfl (Fr.Sub.cons rfl (Fr.Sub.cons rfl (Fr.Sub.cons rfl (Fr.Sub.cons rfl (Fr.Sub.cons rfl (Fr.Sub.nil _))))))) (HSub.pick 0 rfl (HSub.pick 2 rfl (HSub.pick 0 rfl (HSub.pick 0 rfl (HSub.pick 0 rfl (HSub.nil _)))))) ?_
      rintro f hf
      refine RunC.seq ?_
      refine RunC.region ?_
      refine RunL.still rfl rfl rfl (Still.lss rfl rfl rfl) ?_
      refine RunL.nil ?_
      refine Ends.then ?_
      refine RunC.seq ?_
      refine RunC.cond rfl (fun h28 => ?_) (fun h28 => ?_)
      · have h28 := of_decide_eq_true h28
        have hf4 : f < 4 := by omega
        refine RunC.skip ?_
        refine Ends.then ?_
        refine RunC.seq ?_
        refine RunC.block ?_
        refine RunC.seq ?_
        refine RunC.region ?_
        refine RunL.still rfl rfl rfl (Still.move rfl rfl) ?_
        refine RunL.still rfl rfl rfl (Still.assign rfl rfl) ?_
        refine RunL.nil ?_
        refine Ends.then ?_
        refine RunC.region ?_
        refine RunL.still rfl rfl rfl (Still.move rfl rfl) ?_
        refine RunL.still rfl rfl rfl (Still.move rfl rfl) ?_
        refine RunL.does rfl rfl rfl (Does.call (vs := #[_]) (K := [_]) (R := [_, _, _, _]) (S' := (fun c => c = b17)) rfl rfl Tryz.call66 (HSub.pick 1 rfl (HSub.pick 0 rfl (HSub.pick 0 rfl (HSub.pick 0 rfl (HSub.pick 0 rfl (HSub.nil _)))))) (fun c hc => ⟨_, List.mem_cons_self .., hc⟩) (fun w hs => gl_face b17 (restAt f) (tOne.at f) w (hs.at (i := 0) rfl) (hs.lt (i := 0) rfl) he hs.old ((hs.supp _ (List.mem_of_getElem? (i := 0) rfl) b17 rfl).2.resolve_right (fun h => h)) (one_face hf4))) (fun _ _ => ?_)
        refine RunL.still rfl rfl rfl (Still.indexArrNL rfl rfl rfl Tryz.underlying35 Tryz.sizeOf34 (by omega)) ?_
        refine RunL.does0 rfl rfl (Does.store rfl rfl rfl (i := 1) rfl Tryz.sizeOf34 rfl (Nat.ble_eq_true_of_le (show 0 + f * 5 + 5 ≤ 20 by omega)) rfl) (fun _ _ => ?_)
        refine RunL.conv (fun _ hs => hs.re 1 rfl (show _ = HL.obj b6 (.cells (ttA (rowTo (f + 1))) 35 (0, 0)) from congrArg (fun z => HL.obj b6 (.cells z 35 (0, 0))) (rowTo_set hf4))) ?_
        refine RunL.nil ?_
        refine Ends.block ?_
        refine Ends.then ?_
        refine RunC.region ?_
        refine RunL.still rfl rfl rfl (Still.add rfl rfl rfl (fits64 (by omega) (by omega))) ?_
        refine RunL.still rfl rfl rfl (Still.move rfl rfl) ?_
        refine RunL.nil ?_
        refine Ends.again (f + 1) ?_ ?_ (Fr.Sub.app ?_ ?_) ?_
        · show _; omega
        · show _ < _; omega
        · exact Fr.Sub.cons rfl (Fr.Sub.nil _)
        · exact Fr.Sub.cons rfl (Fr.Sub.cons rfl (Fr.Sub.cons rfl (Fr.Sub.cons rfl (Fr.Sub.cons rfl (Fr.Sub.cons rfl (Fr.Sub.nil _))))))
        · exact HSub.pick 1 rfl (HSub.pick 0 rfl (HSub.pick 0 rfl (HSub.pick 0 rfl (HSub.pick 0 rfl (HSub.nil _)))))
      · have h28 := of_decide_eq_false h28
        obtain rfl : f = 4 := by omega
        refine RunC.exit ?_
        refine Ends.then_exit ?_
        refine Ends.then_exit ?_
        refine Ends.block_exit ?_
        refine Ends.then ?_
        refine RunC.region ?_
        refine RunL.still rfl rfl rfl (Still.fieldAddrL (off := 0) (off' := 0) rfl rfl Tryz.underlying24 rfl Tryz.sizeOf22 rfl) ?_
        refine RunL.still rfl rfl rfl (Still.load rfl rfl Tryz.isAgg22 (fun _ hs => cell_nth (hs.at (i := 2) rfl) rfl)) ?_
        refine RunL.still rfl rfl rfl (Still.loads rfl rfl Tryz.isAgg35 Tryz.sizeOf35 (vs := [_, _, _, _, _, _, _, _, _, _, _, _, _, _, _, _, _, _, _, _]) rfl (fun _ hs => cells_nth (hs.at (i := 0) rfl) ⟨rfl, ⟨rfl, ⟨rfl, ⟨rfl, ⟨rfl, ⟨rfl, ⟨rfl, ⟨rfl, ⟨rfl, ⟨rfl, ⟨rfl, ⟨rfl, ⟨rfl, ⟨rfl, ⟨rfl, ⟨rfl, ⟨rfl, ⟨rfl, ⟨rfl, ⟨rfl, trivial⟩⟩⟩⟩⟩⟩⟩⟩⟩⟩⟩⟩⟩⟩⟩⟩⟩⟩⟩⟩)) ?_
        refine RunL.grows rfl rfl rfl (Grows.slice1 rfl rfl Tryz.underlying22 Tryz.sizeOf35 rfl Tryz.zeroValue35 (by decide)) (fun b38 _ => ?_)
        refine RunL.does rfl rfl rfl (Does.appendTo (n' := 1) (xs' := (gOne.flatMap encT)) (news := [_, _, _, _, _, _, _, _, _, _, _, _, _, _, _, _, _, _, _, _]) rfl rfl rfl rfl (i := 4) rfl Tryz.underlying22 (by kernel_rfl : (_ : Option _) = some (some (.agg #[.int .i64 0, .int .i64 0, .int .i64 0, .int .i64 0, .int .i64 0, .int .i64 0, .int .i64 0, .int .i64 0, .int .i64 0, .int .i64 0, .int .i64 0, .int .i64 0, .int .i64 0, .int .i64 0, .int .i64 0, .int .i64 0, .int .i64 0, .int .i64 0, .int .i64 0, .int .i64 0]), 20, 160)) rfl rfl (fun _ hs => cells_nth (hs.at (i := 0) rfl) ⟨rfl, ⟨rfl, ⟨rfl, ⟨rfl, ⟨rfl, ⟨rfl, ⟨rfl, ⟨rfl, ⟨rfl, ⟨rfl, ⟨rfl, ⟨rfl, ⟨rfl, ⟨rfl, ⟨rfl, ⟨rfl, ⟨rfl, ⟨rfl, ⟨rfl, ⟨rfl, trivial⟩⟩⟩⟩⟩⟩⟩⟩⟩⟩⟩⟩⟩⟩⟩⟩⟩⟩⟩⟩) rfl rfl (by omega) (by omega) (rfl) (rfl)) (fun v39 hv39 => ?_)
        refine RunL.know (fun _ hs => own_oneCell (hs.own (i := 4) rfl)) (fun h1v => ?_)
        refine RunL.still rfl rfl rfl (Still.fieldAddrL (off := 0) (off' := 0) rfl rfl Tryz.underlying24 rfl Tryz.sizeOf22 rfl) ?_
        refine RunL.does0 rfl rfl (Does.store1 rfl rfl rfl (i := 3) rfl Tryz.sizeOf22 (h1v) (rfl)) (fun _ _ => ?_)
        refine RunL.nil ?_
        refine Ends.block ?_
        refine Ends.then ?_
        refine RunC.region ?_
        refine RunL.still rfl rfl rfl (Still.add rfl rfl rfl (fits64 (by omega) (by omega))) ?_
        refine RunL.still rfl rfl rfl (Still.move rfl rfl) ?_
        refine RunL.nil ?_
        refine Ends.again (v39, 0 + 1) ?_ ?_ (Fr.Sub.app ?_ ?_) ?_
        · show 0 + 1 ≤ 1; omega
        · show 1 - (0 + 1) < 1 - 0; omega
        · exact Fr.Sub.cons rfl (Fr.Sub.nil _)
        · exact Fr.Sub.cons rfl (Fr.Sub.cons rfl (Fr.Sub.cons rfl (Fr.Sub.cons rfl (Fr.Sub.nil _))))
        · exact HSub.pick 3 rfl (HSub.pick 3 rfl (HSub.pick 2 rfl (HSub.pick 2 rfl (HSub.nil _))))
    · have h26 := of_decide_eq_false h26
      obtain rfl : c = 1 := by omega
      refine RunC.know (fun _ hs => own_shape (hs.own (i := 1) rfl)) (fun hsh => ?_)
      obtain ⟨vb, vc, hvv, hvb⟩ := hsh
      subst hvv
      refine RunC.exit ?_
      refine Ends.then_exit ?_
      refine Ends.then_exit ?_
      refine Ends.block_exit ?_
      refine Ends.then ?_
      refine RunC.seq ?_
      refine RunC.seq ?_
      refine RunC.region ?_
      refine RunL.still rfl rfl rfl (Still.move rfl rfl) ?_
      refine RunL.still rfl rfl rfl (Still.nilCheck rfl rfl) ?_
      refine RunL.still rfl rfl rfl (Still.fieldAddrL (off := 0) (off' := 0) rfl rfl Tryz.underlying91 rfl Tryz.sizeOf89 rfl) ?_
      refine RunL.still rfl rfl rfl (Still.fieldAddrL (off := 0) (off' := 0) rfl rfl Tryz.underlying89 rfl Tryz.sizeOf9 rfl) ?_
      refine RunL.still rfl rfl rfl (Still.load rfl rfl Tryz.isAgg9 (fun _ hs => cell_nth (hs.at (i := 2) rfl) rfl)) ?_
      refine RunL.grows rfl rfl rfl (Grows.call (vs := #[_, _]) rfl rfl Tryz.call67 (fun w hs => z_Trim1 (restAt 4) w (by have := one_end_size; omega))) (fun _ _ => ?_)
      refine RunL.still rfl rfl rfl (Still.neqStrD rfl rfl rfl) ?_
      refine RunL.nil ?_
      refine Ends.then ?_
      refine RunC.cond rfl (fun h48 => ?_) (fun h48 => ?_)
      · have h48 := of_decide_eq_true h48
        exact absurd one_end h48
      · skip
        refine RunC.skip ?_
        refine Ends.then ?_
        refine RunC.seq ?_
        refine RunC.seq ?_
        refine RunC.region ?_
        refine RunL.still rfl rfl rfl (Still.loads rfl rfl Tryz.isAgg24 Tryz.sizeOf24 (vs := [_]) rfl (fun _ hs => cells_nth (hs.at (i := 0) rfl) ⟨rfl, trivial⟩)) ?_
        refine RunL.grows rfl rfl rfl (Grows.call (vs := #[_]) rfl rfl Tryz.call14 (fun w hs => gl_Check vb (vaddr (.slice vb 1 vc)) vc gOne w (GluAt.of_ownG (q := (vb, vc)) (g := gOne) (by decide) (hs.at (i := 1) rfl)))) (fun _ _ => ?_)
        refine RunL.still rfl rfl rfl (Still.assign rfl rfl) ?_
        refine RunL.nil ?_
        refine Ends.then ?_
        refine RunC.seq ?_
        refine RunC.region ?_
        refine RunL.still rfl rfl rfl (Still.move rfl rfl) ?_
        refine RunL.still rfl rfl rfl (Still.neq rfl rfl rfl) ?_
        refine RunL.nil ?_
        refine Ends.then ?_
        refine RunC.cond rfl (fun h53 => ?_) (fun h53 => ?_)
        · have h53 := of_decide_eq_true h53
          exact absurd (chkG_ok one_ok) h53
        · have h53 := of_decide_eq_false h53
          refine RunC.skip ?_
          refine Ends.then ?_
          refine RunC.seq ?_
          refine RunC.region ?_
          refine RunL.still rfl rfl rfl (Still.loads rfl rfl Tryz.isAgg24 Tryz.sizeOf24 (vs := [_]) rfl (fun _ hs => cells_nth (hs.at (i := 0) rfl) ⟨rfl, trivial⟩)) ?_
          refine RunL.does0 rfl rfl (Does.store rfl rfl rfl (i := 0) rfl Tryz.sizeOf24 rfl (rfl) rfl) (fun _ _ => ?_)
          refine RunL.does0 rfl rfl (Does.store1 rfl rfl rfl (i := 3) rfl Tryz.sizeOf27 (rfl) (rfl)) (fun _ _ => ?_)
          refine RunL.nil ?_
          refine Ends.then ?_
          refine RunC.ret ?_
          refine Ends.leaveD (K := [_, _]) (Rr := [_, _]) (H := [_, _]) (.inl (.inl rfl)) rfl (fun w => by simp [invoke, Tryz.call63]) rfl (HSub.pick 0 rfl (HSub.pick 2 rfl (HSub.pick 0 rfl (HSub.pick 0 rfl (HSub.nil _))))) (fun _ h => h) (fun w hs => parse_ret b2 b3 _ _ w hs.left) (fun _ _ ok => results2 Tryz.results29 (Holds.cell rfl (fun _ hs => load_cells (vs := [_]) Tryz.isAgg24 Tryz.sizeOf24 rfl (cells_nth (hs.at (i := 0) rfl) ⟨rfl, trivial⟩))) (Holds.cell rfl (fun _ hs => load_one Tryz.isAgg27 (cell_nth (hs.at (i := 1) rfl) rfl))) ok) (fun w1 hs => ?_)
          exact Ret.intro (vb, vc) hvb rfl (HSub.pick 2 rfl (HSub.nil _)) hs

end Go.Proofs
/- Parts and orientations of gluings: contracts of both texts. -/
namespace Go.Proofs
open Go Go.V
set_option maxRecDepth 20000
theorem gl_parts (base : Option Addr) (A : Addr) (cap : Nat) (g : Glu) (w : World) (hg : GluAt w base A g) (hok : okG g = true) : Gives Tryz.prog 49 #[gluV base cap g] w Nil (fun _ : Nat => True) (fun b => .tuple #[.slice (some ⟨b, 0, none⟩) g.length g.length, iv (partsN g)]) (fun b => [HL.own 3 1 (.slice (some ⟨b, 0, none⟩) g.length g.length) g.length (ints (partsOf g))]) := by
  have hlen := hg.len
  have h1000 := okG_len hok
  refine fn_of_run (S := Nil) (args := [gluV base cap g]) (n := 85) (L := []) Tryz.func49 rfl Tryz.ntmps49 (Nat.le_of_ble_eq_true rfl) (Sym.nil _ _) ?_
  change RunC _ _ _ [(0, _)] _
  refine RunC.seq ?_
  refine RunC.region ?_
  refine RunL.grows rfl rfl rfl (Grows.box rfl rfl) (fun b1 _ => ?_)
  refine RunL.still rfl rfl rfl (Still.assign rfl rfl) ?_
  refine RunL.still rfl rfl rfl (Still.assign rfl rfl) ?_
  refine RunL.nil ?_
  refine Ends.then ?_
  refine RunC.seq ?_
  refine RunC.region ?_
  refine RunL.still rfl rfl rfl (Still.fieldAddrL (off := 0) (off' := 0) rfl rfl Tryz.underlying24 rfl Tryz.sizeOf22 rfl) ?_
  refine RunL.still rfl rfl rfl (Still.load rfl rfl Tryz.isAgg22 (fun _ hs => cell_nth (hs.at (i := 0) rfl) rfl)) ?_
  refine RunL.still rfl rfl rfl (Still.lenSlice rfl rfl Tryz.underlying22) ?_
  refine RunL.grows rfl rfl rfl (Grows.make (n := g.length) (xs := (ints (List.replicate g.length 0))) rfl rfl rfl Tryz.underlying36 (by kernel_rfl : (_ : Option _) = some (some (.int .i64 0), 1, 8)) rfl (by omega) (by omega) (zeros_one _ _ |>.trans (ints_replicate _ _))) (fun b15 _ => ?_)
  refine RunL.still rfl rfl rfl (Still.assign rfl rfl) ?_
  refine RunL.nil ?_
  refine Ends.then ?_
  refine RunC.seq ?_
  refine RunC.seq ?_
  refine RunC.region ?_
  refine RunL.still rfl rfl rfl (Still.move rfl rfl) ?_
  refine RunL.still rfl rfl rfl (Still.lenOwn rfl rfl Tryz.underlying36 (fun _ hs => hs.own (i := 0) rfl)) ?_
  refine RunL.still rfl rfl rfl (Still.move rfl rfl) ?_
  refine RunL.nil ?_
  refine Ends.then ?_
  refine RunC.block ?_
  refine RunC.loop2 (γ := Nat) (keep := [(1, _), (4, _), (17, _)]) (hkeep := [_]) (fun a => a ≤ g.length) (fun a => g.length - a) (fun a => [(18, iv a)]) (fun a => [HL.own 3 1 (.slice (some ⟨b15, 0, none⟩) g.length g.length) g.length (ints (negTo g.length a))]) 0 (by omega) (Fr.Sub.cons rfl (Fr.Sub.nil _)) (Fr.Sub.cons rfl (Fr.Sub.cons rfl (Fr.Sub.cons rfl (Fr.Sub.nil _)))) (HSub.pick 0 (by rw [negTo_zero]; rfl) (HSub.pick 0 rfl (HSub.nil _))) ?_
  rintro a ha
  refine RunC.seq ?_
  refine RunC.region ?_
  refine RunL.still rfl rfl rfl (Still.lss rfl rfl rfl) ?_
  refine RunL.nil ?_
  refine Ends.then ?_
  refine RunC.seq ?_
  refine RunC.cond rfl (fun h19 => ?_) (fun h19 => ?_)
  · have h19 := of_decide_eq_true h19
    refine RunC.skip ?_
    refine Ends.then ?_
    refine RunC.seq ?_
    refine RunC.block ?_
    refine RunC.seq ?_
    refine RunC.region ?_
    refine RunL.still rfl rfl rfl (Still.move rfl rfl) ?_
    refine RunL.still rfl rfl rfl (Still.assign rfl rfl) ?_
    refine RunL.nil ?_
    refine Ends.then ?_
    refine RunC.region ?_
    refine RunL.still rfl rfl rfl (Still.move rfl rfl) ?_
    refine RunL.still rfl rfl rfl (Still.move rfl rfl) ?_
    refine RunL.still rfl rfl rfl (Still.indexOwn rfl rfl rfl Tryz.underlying36 Tryz.sizeOf3 (fun _ hs => hs.own (i := 0) rfl) (by omega)) ?_
    refine RunL.does0 rfl rfl (Does.storeOwn1 (xs' := (ints (negTo g.length (a + 1)))) rfl rfl rfl rfl (i := 0) rfl Tryz.sizeOf3 rfl (by simp [negTo_len]; omega) ((ints_set _ _ _).trans (congrArg ints (negTo_succ (by omega))))) (fun _ _ => ?_)
    refine RunL.nil ?_
    refine Ends.block ?_
    refine Ends.then ?_
    refine RunC.region ?_
    refine RunL.still rfl rfl rfl (Still.add rfl rfl rfl (fits64 (by omega) (by omega))) ?_
    refine RunL.still rfl rfl rfl (Still.move rfl rfl) ?_
    refine RunL.nil ?_
    refine Ends.again (a + 1) ?_ ?_ (Fr.Sub.app ?_ ?_) ?_
    · show _; omega
    · show _ < _; omega
    · exact Fr.Sub.cons rfl (Fr.Sub.nil _)
    · exact Fr.Sub.cons rfl (Fr.Sub.cons rfl (Fr.Sub.cons rfl (Fr.Sub.nil _)))
    · exact HSub.pick 0 rfl (HSub.pick 0 rfl (HSub.nil _))
  · have h19 := of_decide_eq_false h19
    refine RunC.exit ?_
    refine Ends.then_exit ?_
    refine Ends.then_exit ?_
    refine Ends.block_exit ?_
    refine Ends.then ?_
    refine RunC.seq ?_
    refine RunC.region ?_
    refine RunL.still rfl rfl rfl (Still.assign rfl rfl) ?_
    refine RunL.nil ?_
    refine Ends.then ?_
    refine RunC.seq ?_
    refine RunC.seq ?_
    refine RunC.region ?_
    refine RunL.still rfl rfl rfl (Still.move rfl rfl) ?_
    refine RunL.still rfl rfl rfl (Still.lenOwn rfl rfl Tryz.underlying36 (fun _ hs => hs.own (i := 0) rfl)) ?_
    refine RunL.still rfl rfl rfl (Still.move rfl rfl) ?_
    refine RunL.nil ?_
    refine Ends.then ?_
    refine RunC.block ?_
    refine RunC.loop2 (γ := Nat) (keep := [(1, _), (4, _), (26, _)]) (hkeep := [_]) (fun t => t ≤ g.length) (fun t => g.length - t) (fun t => [(6, iv (pAll g t).2), (27, iv t)]) (fun t => [HL.own 3 1 (.slice (some ⟨b15, 0, none⟩) g.length g.length) g.length (ints (pAll g t).1)]) 0 (by omega) (Fr.Sub.cons rfl (Fr.Sub.cons rfl (Fr.Sub.nil _))) (Fr.Sub.cons rfl (Fr.Sub.cons rfl (Fr.Sub.cons rfl (Fr.Sub.nil _)))) (HSub.pick 0 (by rw [show a = g.length by omega, negTo_all]; rfl) (HSub.pick 0 rfl (HSub.nil _))) ?_
    rintro t ht
    obtain ⟨hpl, hn0, hnt⟩ := pAll_ok hok t ht
    refine RunC.seq ?_
    refine RunC.region ?_
    refine RunL.still rfl rfl rfl (Still.lss rfl rfl rfl) ?_
    refine RunL.nil ?_
    refine Ends.then ?_
    refine RunC.seq ?_
    refine RunC.cond rfl (fun h28 => ?_) (fun h28 => ?_)
    · have h28 := of_decide_eq_true h28
      have htN : t < g.length := by omega
      refine RunC.skip ?_
      refine Ends.then ?_
      refine RunC.seq ?_
      refine RunC.block ?_
      refine RunC.seq ?_
      refine RunC.region ?_
      refine RunL.still rfl rfl rfl (Still.move rfl rfl) ?_
      refine RunL.still rfl rfl rfl (Still.assign rfl rfl) ?_
      refine RunL.nil ?_
      refine Ends.then ?_
      refine RunC.seq ?_
      refine RunC.seq ?_
      refine RunC.region ?_
      refine RunL.still rfl rfl rfl (Still.move rfl rfl) ?_
      refine RunL.still rfl rfl rfl (Still.move rfl rfl) ?_
      refine RunL.still rfl rfl rfl (Still.indexOwn rfl rfl rfl Tryz.underlying36 Tryz.sizeOf3 (fun _ hs => hs.own (i := 0) rfl) (by omega)) ?_
      refine RunL.still rfl rfl rfl (Still.load rfl rfl Tryz.isAgg3 (fun w hs => own_at (hs.own (i := 0) rfl) (ints_get (getD_get' (by omega))))) ?_
      refine RunL.still rfl rfl rfl (Still.geq rfl rfl rfl) ?_
      refine RunL.nil ?_
      refine Ends.then ?_
      refine RunC.cond rfl (fun h34 => ?_) (fun h34 => ?_)
      · have h34 := of_decide_eq_true h34
        refine RunC.exit ?_
        refine Ends.then_exit ?_
        refine Ends.block_exit ?_
        refine Ends.then ?_
        refine RunC.region ?_
        refine RunL.still rfl rfl rfl (Still.add rfl rfl rfl (fits64 (by omega) (by omega))) ?_
        refine RunL.still rfl rfl rfl (Still.move rfl rfl) ?_
        refine RunL.nil ?_
        refine Ends.again (t + 1) ?_ ?_ (Fr.Sub.app ?_ ?_) ?_
        · show _; omega
        · show _ < _; omega
        · exact Fr.Sub.cons (by rw [pAll_keep h34]; rfl) (Fr.Sub.cons rfl (Fr.Sub.nil _))
        · exact Fr.Sub.cons rfl (Fr.Sub.cons rfl (Fr.Sub.cons rfl (Fr.Sub.nil _)))
        · exact HSub.pick 0 (by rw [pAll_keep h34]; rfl) (HSub.pick 0 rfl (HSub.nil _))
      · have h34 := of_decide_eq_false h34
        have hge := h34
        refine RunC.skip ?_
        refine Ends.then ?_
        refine RunC.seq ?_
        refine RunC.region ?_
        refine RunL.still rfl rfl rfl (Still.move rfl rfl) ?_
        refine RunL.still rfl rfl rfl (Still.move rfl rfl) ?_
        refine RunL.still rfl rfl rfl (Still.move rfl rfl) ?_
        refine RunL.still rfl rfl rfl (Still.indexOwn rfl rfl rfl Tryz.underlying36 Tryz.sizeOf3 (fun _ hs => hs.own (i := 0) rfl) (by omega)) ?_
        refine RunL.does0 rfl rfl (Does.storeOwn1 (xs' := (ints ((pAll g t).1.set t (pAll g t).2))) rfl rfl rfl rfl (i := 0) rfl Tryz.sizeOf3 rfl (by simp; omega) (ints_set _ _ _)) (fun _ _ => ?_)
        refine RunL.nil ?_
        refine Ends.then ?_
        refine RunC.seq ?_
        refine RunC.region ?_
        refine RunL.still rfl rfl rfl (Still.move rfl rfl) ?_
        refine RunL.grows rfl rfl rfl (Grows.slice1 rfl rfl Tryz.underlying36 Tryz.sizeOf3 rfl Tryz.zeroValue3 (by decide)) (fun b40 _ => ?_)
        refine RunL.conv (fun _ hs => Sym.obj_own (k := 1) (n := 1) hs rfl (by omega)) ?_
        refine RunL.still rfl rfl rfl (Still.assign rfl rfl) ?_
        refine RunL.nil ?_
        refine Ends.then ?_
        refine RunC.seq ?_
        refine RunC.seq ?_
        refine RunC.region ?_
        refine RunL.still rfl rfl rfl (Still.assign rfl rfl) ?_
        refine RunL.nil ?_
        refine Ends.then ?_
        refine RunC.block ?_
        refine RunC.loop2 (γ := Value × BSt × Nat × Nat) (keep := [(1, _), (4, _), (6, _), (26, _), (27, _)]) (hkeep := [_]) (fun (v, s, i, k) => PSt g s ∧ pBfs g (pAll g t).2 k i s = pBfs g (pAll g t).2 g.length 0 ((pAll g t).1.set t (pAll g t).2, [t]) ∧ i + k = g.length) (fun (v, s, i, k) => k) (fun (v, s, i, k) => [(8, v), (9, iv i)]) (fun (v, s, i, k) => [HL.own 3 1 (.slice (some ⟨b15, 0, none⟩) g.length g.length) g.length (ints s.1), HL.own 3 1 v s.2.length (nints s.2)]) (.slice (some ⟨b40, 0, none⟩) 1 1, ((pAll g t).1.set t (pAll g t).2, [t]), 0, g.length) ⟨PSt.start hpl (by omega) hn0 (by omega), rfl, by omega⟩ (Fr.Sub.cons rfl (Fr.Sub.cons rfl (Fr.Sub.nil _))) (Fr.Sub.cons rfl (Fr.Sub.cons rfl (Fr.Sub.cons rfl (Fr.Sub.cons rfl (Fr.Sub.cons rfl (Fr.Sub.nil _)))))) (HSub.pick 1 rfl (HSub.pick 0 (by rfl) (HSub.pick 0 rfl (HSub.nil _)))) ?_
        rintro ⟨v, s, i, k⟩ ⟨hP, hM, hik⟩
        have hP : PSt g s := hP
        have hik : i + k = g.length := hik
        have hroom := hP.room
        refine RunC.seq ?_
        refine RunC.seq ?_
        refine RunC.region ?_
        refine RunL.still rfl rfl rfl (Still.move rfl rfl) ?_
        refine RunL.still rfl rfl rfl (Still.move rfl rfl) ?_
        refine RunL.still rfl rfl rfl (Still.lenOwn rfl rfl Tryz.underlying36 (fun _ hs => hs.own (i := 1) rfl)) ?_
        refine RunL.still rfl rfl rfl (Still.lss rfl rfl rfl) ?_
        refine RunL.nil ?_
        refine Ends.then ?_
        refine RunC.cond rfl (fun h44 => ?_) (fun h44 => ?_)
        · have h44 := of_decide_eq_true h44
          obtain ⟨u, hu⟩ := get_of_lt (l := s.2) (i := i) (by omega)
          have huN : u < g.length := hP.mem u (List.mem_of_getElem? hu)
          refine RunC.skip ?_
          refine Ends.then ?_
          refine RunC.seq ?_
          refine RunC.block ?_
          refine RunC.seq ?_
          refine RunC.drawY (.pure 0 (.pure 2 (.pure 3 (.pure 8 (.two 1 (.one 4 (.one 5 (.pure 6 (.one 7 .done)))) 4 (.two 1 (.one 5 (.pure 6 (.one 7 .done))) 5 (.one 1 (.pure 6 (.one 7 .done))))))))) (by kernel_rfl) (by kernel_rfl) ?_
          refine RunY.pure rfl rfl rfl rfl (fun _ => Still.fieldAddrL (off := 0) (off' := 0) rfl rfl Tryz.underlying24 rfl Tryz.sizeOf22 rfl) ?_
          refine RunY.pure rfl rfl rfl rfl (fun _ => Still.move rfl rfl) ?_
          refine RunY.pure rfl rfl rfl rfl (fun _ => Still.move rfl rfl) ?_
          refine RunY.pure rfl rfl rfl rfl (fun _ => Still.move rfl rfl) ?_
          refine RunY.two ?_ ?_
          ·
            refine RunY.still rfl rfl rfl rfl (Still.load rfl rfl Tryz.isAgg22 (fun _ hs => cell_nth (hs.at (i := 2) rfl) rfl)) ?_
            refine RunY.still rfl rfl rfl rfl (Still.indexOwn rfl rfl rfl Tryz.underlying36 Tryz.sizeOf3 (fun _ hs => hs.own (i := 1) rfl) (by omega)) ?_
            refine RunY.still rfl rfl rfl rfl (Still.load rfl rfl Tryz.isAgg3 (fun w hs => own_at (hs.own (i := 1) rfl) (nints_get hu))) ?_
            refine RunY.pure rfl rfl rfl rfl (fun _ => Still.indexSliceN rfl rfl rfl Tryz.underlying22 Tryz.sizeOf35 (hg.base (by omega)) (by omega)) ?_
            refine RunY.still rfl rfl rfl rfl (Still.loads rfl rfl Tryz.isAgg35 Tryz.sizeOf35 (vs := [iv (tAt g u).f0.tet, iv (tAt g u).f0.p.a0, iv (tAt g u).f0.p.a1, iv (tAt g u).f0.p.a2, iv (tAt g u).f0.p.a3, iv (tAt g u).f1.tet, iv (tAt g u).f1.p.a0, iv (tAt g u).f1.p.a1, iv (tAt g u).f1.p.a2, iv (tAt g u).f1.p.a3, iv (tAt g u).f2.tet, iv (tAt g u).f2.p.a0, iv (tAt g u).f2.p.a1, iv (tAt g u).f2.p.a2, iv (tAt g u).f2.p.a3, iv (tAt g u).f3.tet, iv (tAt g u).f3.p.a0, iv (tAt g u).f3.p.a1, iv (tAt g u).f3.p.a2, iv (tAt g u).f3.p.a3]) rfl (fun _ hs => (hg.sym hs).cell u _ (tAt_get huN))) ?_
            refine RunY.done ?_
            refine Ends.then ?_
            refine RunC.block ?_
            refine RunC.loop2 (γ := Value × Nat) (keep := [(1, _), (4, _), (6, _), (9, _), (26, _), (27, _), (54, _)]) (hkeep := [_]) (fun (v, f) => f ≤ 4) (fun (v, f) => 4 - f) (fun (v, f) => [(8, v), (55, iv f)]) (fun (v, f) => [HL.own 3 1 (.slice (some ⟨b15, 0, none⟩) g.length g.length) g.length (ints (pTo g (pAll g t).2 u s f).1), HL.own 3 1 v (pTo g (pAll g t).2 u s f).2.length (nints (pTo g (pAll g t).2 u s f).2)]) (v, 0) (Nat.zero_le 4) (Fr.Sub.cons rfl (Fr.Sub.cons rfl (Fr.Sub.nil _))) (Fr.Sub.cons rfl (Fr.Sub.cons rfl (Fr.Sub.cons rfl (Fr.Sub.cons rfl (Fr.Sub.cons rfl (Fr.Sub.cons rfl (Fr.Sub.cons rfl (Fr.Sub.nil _)))))))) (HSub.pick 0 rfl (HSub.pick 0 rfl (HSub.pick 0 rfl (HSub.nil _)))) ?_
            rintro ⟨v, f⟩ hf
            have hf : f ≤ 4 := hf
            have hP4 := pTo_ok (n := (pAll g t).2) hn0 hok huN hP f hf
            have hq4 := pTo_pre (g := g) (n := (pAll g t).2) (t := u) hu f
            have hr4 := hP4.room
            have hl4 := hP4.len
            refine RunC.seq ?_
            refine RunC.region ?_
            refine RunL.still rfl rfl rfl (Still.lss rfl rfl rfl) ?_
            refine RunL.nil ?_
            refine Ends.then ?_
            refine RunC.seq ?_
            refine RunC.cond rfl (fun h56 => ?_) (fun h56 => ?_)
            · have h56 := of_decide_eq_true h56
              have hf4 : f < 4 := by omega
              refine RunC.skip ?_
              refine Ends.then ?_
              refine RunC.seq ?_
              refine RunC.block ?_
              refine RunC.seq ?_
              refine RunC.region ?_
              refine RunL.still rfl rfl rfl (Still.indexAgg rfl rfl rfl Tryz.underlying35 Tryz.sizeOf34 Tryz.isAgg34 ⟨by omega, by omega⟩ (ttV_fAt g u hf4)) ?_
              refine RunL.grows rfl rfl rfl (Grows.alloc rfl Tryz.zeroValue34) (fun b11 _ => ?_)
              refine RunL.does0 rfl rfl (Does.store rfl rfl rfl (i := 0) rfl Tryz.sizeOf34 rfl (rfl) rfl) (fun _ _ => ?_)
              refine RunL.nil ?_
              refine Ends.then ?_
              refine RunC.seq ?_
              refine RunC.region ?_
              refine RunL.still rfl rfl rfl (Still.fieldAddrL (off := 0) (off' := 0) rfl rfl Tryz.underlying34 rfl Tryz.sizeOf3 rfl) ?_
              refine RunL.still rfl rfl rfl (Still.load rfl rfl Tryz.isAgg3 (fun _ hs => cell_nth (hs.at (i := 0) rfl) rfl)) ?_
              refine RunL.still rfl rfl rfl (Still.geq rfl rfl rfl) ?_
              refine RunL.still rfl rfl rfl (Still.move rfl rfl) ?_
              refine RunL.split (t := 61) rfl (fun h61 => ?_) (fun h61 => ?_)
              · have h61 := of_decide_eq_true h61
                have hF := okG_glued hok huN hf4 (by omega)
                have hFl := hF.lo
                have hFh := hF.hi
                refine RunL.still rfl rfl rfl (Still.move rfl rfl) ?_
                refine RunL.still rfl rfl rfl (Still.fieldAddrL (off := 0) (off' := 0) rfl rfl Tryz.underlying34 rfl Tryz.sizeOf3 rfl) ?_
                refine RunL.still rfl rfl rfl (Still.load rfl rfl Tryz.isAgg3 (fun _ hs => cell_nth (hs.at (i := 0) rfl) rfl)) ?_
                refine RunL.still rfl rfl rfl (Still.indexOwnI (m := (fAt g u f).tet.toNat) rfl rfl rfl Tryz.underlying36 Tryz.sizeOf3 (fun _ hs => hs.own (i := 1) rfl) (by omega) (by omega)) ?_
                refine RunL.still rfl rfl rfl (Still.load rfl rfl Tryz.isAgg3 (fun w hs => own_at (hs.own (i := 1) rfl) (ints_get (getD_get' (by omega))))) ?_
                refine RunL.still rfl rfl rfl (Still.lss rfl rfl rfl) ?_
                refine RunL.still rfl rfl rfl (Still.pickT rfl rfl rfl) ?_
                refine RunL.nil ?_
                refine Ends.then ?_
                refine RunC.cond rfl (fun h68 => ?_) (fun h68 => ?_)
                · have h68 := of_decide_eq_true h68
                  refine RunC.seq ?_
                  refine RunC.region ?_
                  refine RunL.still rfl rfl rfl (Still.move rfl rfl) ?_
                  refine RunL.still rfl rfl rfl (Still.fieldAddrL (off := 0) (off' := 0) rfl rfl Tryz.underlying34 rfl Tryz.sizeOf3 rfl) ?_
                  refine RunL.still rfl rfl rfl (Still.load rfl rfl Tryz.isAgg3 (fun _ hs => cell_nth (hs.at (i := 0) rfl) rfl)) ?_
                  refine RunL.still rfl rfl rfl (Still.move rfl rfl) ?_
                  refine RunL.still rfl rfl rfl (Still.indexOwnI (m := (fAt g u f).tet.toNat) rfl rfl rfl Tryz.underlying36 Tryz.sizeOf3 (fun _ hs => hs.own (i := 1) rfl) (by omega) (by omega)) ?_
                  refine RunL.does0 rfl rfl (Does.storeOwn1 (xs' := (ints ((pTo g (pAll g t).2 u s f).1.set (fAt g u f).tet.toNat (pAll g t).2))) rfl rfl rfl rfl (i := 1) rfl Tryz.sizeOf3 rfl (by simp; omega) (ints_set _ _ _)) (fun _ _ => ?_)
                  refine RunL.nil ?_
                  refine Ends.then ?_
                  refine RunC.region ?_
                  refine RunL.still rfl rfl rfl (Still.move rfl rfl) ?_
                  refine RunL.still rfl rfl rfl (Still.fieldAddrL (off := 0) (off' := 0) rfl rfl Tryz.underlying34 rfl Tryz.sizeOf3 rfl) ?_
                  refine RunL.still rfl rfl rfl (Still.load rfl rfl Tryz.isAgg3 (fun _ hs => cell_nth (hs.at (i := 0) rfl) rfl)) ?_
                  refine RunL.grows rfl rfl rfl (Grows.slice1 rfl rfl Tryz.underlying36 Tryz.sizeOf3 rfl Tryz.zeroValue3 (by decide)) (fun b77 _ => ?_)
                  refine RunL.does rfl rfl rfl (Does.appendTo (n' := ((pTo g (pAll g t).2 u s f).2.length + 1)) (xs' := (nints ((pTo g (pAll g t).2 u s f).2 ++ [(fAt g u f).tet.toNat]))) (news := [_]) rfl rfl rfl rfl (i := 3) rfl Tryz.underlying36 (by kernel_rfl : (_ : Option _) = some (some (.int .i64 0), 1, 8)) rfl rfl (fun _ hs => cells_nth (hs.at (i := 0) rfl) ⟨rfl, trivial⟩) rfl rfl (by omega) (by omega) (rfl) ((congrArg (fun z => _ ++ [iv z]) (by omega)).trans (nints_snoc _ _))) (fun v78 hv78 => ?_)
                  refine RunL.still rfl rfl rfl (Still.assign rfl rfl) ?_
                  refine RunL.nil ?_
                  refine Ends.block ?_
                  refine Ends.then ?_
                  refine RunC.region ?_
                  refine RunL.still rfl rfl rfl (Still.add rfl rfl rfl (fits64 (by omega) (by omega))) ?_
                  refine RunL.still rfl rfl rfl (Still.move rfl rfl) ?_
                  refine RunL.nil ?_
                  have hgo : pTo g (pAll g t).2 u s (f + 1) = ((pTo g (pAll g t).2 u s f).1.set (fAt g u f).tet.toNat (pAll g t).2, (pTo g (pAll g t).2 u s f).2 ++ [(fAt g u f).tet.toNat]) := pFace_go (by omega) (by omega)
                  refine Ends.again (v78, f + 1) ?_ ?_ (Fr.Sub.app ?_ ?_) ?_
                  · show f + 1 ≤ 4; omega
                  · show 4 - (f + 1) < 4 - f; omega
                  · exact Fr.Sub.cons rfl (Fr.Sub.cons rfl (Fr.Sub.nil _))
                  · exact Fr.Sub.cons rfl (Fr.Sub.cons rfl (Fr.Sub.cons rfl (Fr.Sub.cons rfl (Fr.Sub.cons rfl (Fr.Sub.cons rfl (Fr.Sub.cons rfl (Fr.Sub.nil _)))))))
                  · exact HSub.pick 2 (by rw [hgo]; rfl) (HSub.pick 2 (by rw [hgo]; simp only [List.length_append, List.length_singleton]; rfl) (HSub.pick 2 rfl (HSub.nil _)))
                · have h68 := of_decide_eq_false h68
                  refine RunC.skip ?_
                  refine Ends.block ?_
                  refine Ends.then ?_
                  refine RunC.region ?_
                  refine RunL.still rfl rfl rfl (Still.add rfl rfl rfl (fits64 (by omega) (by omega))) ?_
                  refine RunL.still rfl rfl rfl (Still.move rfl rfl) ?_
                  refine RunL.nil ?_
                  have hno : pTo g (pAll g t).2 u s (f + 1) = pTo g (pAll g t).2 u s f := pFace_no (by omega)
                  refine Ends.again (v, f + 1) ?_ ?_ (Fr.Sub.app ?_ ?_) ?_
                  · show f + 1 ≤ 4; omega
                  · show 4 - (f + 1) < 4 - f; omega
                  · exact Fr.Sub.cons rfl (Fr.Sub.cons rfl (Fr.Sub.nil _))
                  · exact Fr.Sub.cons rfl (Fr.Sub.cons rfl (Fr.Sub.cons rfl (Fr.Sub.cons rfl (Fr.Sub.cons rfl (Fr.Sub.cons rfl (Fr.Sub.cons rfl (Fr.Sub.nil _)))))))
                  · exact HSub.pick 1 (by rw [hno]; rfl) (HSub.pick 1 (by rw [hno]; rfl) (HSub.pick 1 rfl (HSub.nil _)))
              · have h61 := of_decide_eq_false h61
                refine RunL.off rfl rfl rfl ?_
                refine RunL.off rfl rfl rfl ?_
                refine RunL.off rfl rfl rfl ?_
                refine RunL.off rfl rfl rfl ?_
                refine RunL.off rfl rfl rfl ?_
                refine RunL.off rfl rfl rfl ?_
                refine RunL.still rfl rfl rfl (Still.pickF rfl rfl rfl) ?_
                refine RunL.nil ?_
                refine Ends.then ?_
                refine RunC.cond_false rfl ?_
                refine RunC.skip ?_
                refine Ends.block ?_
                refine Ends.then ?_
                refine RunC.region ?_
                refine RunL.still rfl rfl rfl (Still.add rfl rfl rfl (fits64 (by omega) (by omega))) ?_
                refine RunL.still rfl rfl rfl (Still.move rfl rfl) ?_
                refine RunL.nil ?_
                have hno : pTo g (pAll g t).2 u s (f + 1) = pTo g (pAll g t).2 u s f := pFace_no (by omega)
                refine Ends.again (v, f + 1) ?_ ?_ (Fr.Sub.app ?_ ?_) ?_
                · show f + 1 ≤ 4; omega
                · show 4 - (f + 1) < 4 - f; omega
                · exact Fr.Sub.cons rfl (Fr.Sub.cons rfl (Fr.Sub.nil _))
                · exact Fr.Sub.cons rfl (Fr.Sub.cons rfl (Fr.Sub.cons rfl (Fr.Sub.cons rfl (Fr.Sub.cons rfl (Fr.Sub.cons rfl (Fr.Sub.cons rfl (Fr.Sub.nil _)))))))
                · exact HSub.pick 1 (by rw [hno]; rfl) (HSub.pick 1 (by rw [hno]; rfl) (HSub.pick 1 rfl (HSub.nil _)))
            · have h56 := of_decide_eq_false h56
              obtain rfl : f = 4 := by omega
              refine RunC.exit ?_
              refine Ends.then_exit ?_
              refine Ends.then_exit ?_
              refine Ends.block_exit ?_
              refine Ends.block ?_
              refine Ends.then ?_
              refine RunC.region ?_
              refine RunL.still rfl rfl rfl (Still.move rfl rfl) ?_
              refine RunL.still rfl rfl rfl (Still.add rfl rfl rfl (fits64 (by omega) (by omega))) ?_
              refine RunL.still rfl rfl rfl (Still.assign rfl rfl) ?_
              refine RunL.nil ?_
              obtain ⟨k, rfl⟩ : ∃ m, k = m + 1 := ⟨k - 1, by have := (List.getElem?_eq_some_iff.1 hu).1; omega⟩
              refine Ends.again (v, pTo g (pAll g t).2 u s 4, i + 1, k) ?_ ?_ (Fr.Sub.app ?_ ?_) ?_
              · exact ⟨hP4, by rw [← hM, pBfs_step hu], by show i + 1 + k = _; omega⟩
              · exact Nat.lt_succ_self _
              · exact Fr.Sub.cons rfl (Fr.Sub.cons rfl (Fr.Sub.nil _))
              · exact Fr.Sub.cons rfl (Fr.Sub.cons rfl (Fr.Sub.cons rfl (Fr.Sub.cons rfl (Fr.Sub.cons rfl (Fr.Sub.nil _)))))
              · exact HSub.pick 0 rfl (HSub.pick 0 rfl (HSub.pick 0 rfl (HSub.nil _)))
          ·
            refine RunY.still rfl rfl rfl rfl (Still.indexOwn rfl rfl rfl Tryz.underlying36 Tryz.sizeOf3 (fun _ hs => hs.own (i := 1) rfl) (by omega)) ?_
            refine RunY.two ?_ ?_
            ·
              refine RunY.still rfl rfl rfl rfl (Still.load rfl rfl Tryz.isAgg22 (fun _ hs => cell_nth (hs.at (i := 2) rfl) rfl)) ?_
              refine RunY.still rfl rfl rfl rfl (Still.load rfl rfl Tryz.isAgg3 (fun w hs => own_at (hs.own (i := 1) rfl) (nints_get hu))) ?_
              refine RunY.pure rfl rfl rfl rfl (fun _ => Still.indexSliceN rfl rfl rfl Tryz.underlying22 Tryz.sizeOf35 (hg.base (by omega)) (by omega)) ?_
              refine RunY.still rfl rfl rfl rfl (Still.loads rfl rfl Tryz.isAgg35 Tryz.sizeOf35 (vs := [iv (tAt g u).f0.tet, iv (tAt g u).f0.p.a0, iv (tAt g u).f0.p.a1, iv (tAt g u).f0.p.a2, iv (tAt g u).f0.p.a3, iv (tAt g u).f1.tet, iv (tAt g u).f1.p.a0, iv (tAt g u).f1.p.a1, iv (tAt g u).f1.p.a2, iv (tAt g u).f1.p.a3, iv (tAt g u).f2.tet, iv (tAt g u).f2.p.a0, iv (tAt g u).f2.p.a1, iv (tAt g u).f2.p.a2, iv (tAt g u).f2.p.a3, iv (tAt g u).f3.tet, iv (tAt g u).f3.p.a0, iv (tAt g u).f3.p.a1, iv (tAt g u).f3.p.a2, iv (tAt g u).f3.p.a3]) rfl (fun _ hs => (hg.sym hs).cell u _ (tAt_get huN))) ?_
              refine RunY.done ?_
              refine Ends.then ?_
              refine RunC.block ?_
              refine RunC.loop2 (γ := Value × Nat) (keep := [(1, _), (4, _), (6, _), (9, _), (26, _), (27, _), (54, _)]) (hkeep := [_]) (fun (v, f) => f ≤ 4) (fun (v, f) => 4 - f) (fun (v, f) => [(8, v), (55, iv f)]) (fun (v, f) => [HL.own 3 1 (.slice (some ⟨b15, 0, none⟩) g.length g.length) g.length (ints (pTo g (pAll g t).2 u s f).1), HL.own 3 1 v (pTo g (pAll g t).2 u s f).2.length (nints (pTo g (pAll g t).2 u s f).2)]) (v, 0) (Nat.zero_le 4) (Fr.Sub.cons rfl (Fr.Sub.cons rfl (Fr.Sub.nil _))) (Fr.Sub.cons rfl (Fr.Sub.cons rfl (Fr.Sub.cons rfl (Fr.Sub.cons rfl (Fr.Sub.cons rfl (Fr.Sub.cons rfl (Fr.Sub.cons rfl (Fr.Sub.nil _)))))))) (HSub.pick 0 rfl (HSub.pick 0 rfl (HSub.pick 0 rfl (HSub.nil _)))) ?_
              rintro ⟨v, f⟩ hf
              have hf : f ≤ 4 := hf
              have hP4 := pTo_ok (n := (pAll g t).2) hn0 hok huN hP f hf
              have hq4 := pTo_pre (g := g) (n := (pAll g t).2) (t := u) hu f
              have hr4 := hP4.room
              have hl4 := hP4.len
              refine RunC.seq ?_
              refine RunC.region ?_
              refine RunL.still rfl rfl rfl (Still.lss rfl rfl rfl) ?_
              refine RunL.nil ?_
              refine Ends.then ?_
              refine RunC.seq ?_
              refine RunC.cond rfl (fun h56 => ?_) (fun h56 => ?_)
              · have h56 := of_decide_eq_true h56
                have hf4 : f < 4 := by omega
                refine RunC.skip ?_
                refine Ends.then ?_
                refine RunC.seq ?_
                refine RunC.block ?_
                refine RunC.seq ?_
                refine RunC.region ?_
                refine RunL.still rfl rfl rfl (Still.indexAgg rfl rfl rfl Tryz.underlying35 Tryz.sizeOf34 Tryz.isAgg34 ⟨by omega, by omega⟩ (ttV_fAt g u hf4)) ?_
                refine RunL.grows rfl rfl rfl (Grows.alloc rfl Tryz.zeroValue34) (fun b11 _ => ?_)
                refine RunL.does0 rfl rfl (Does.store rfl rfl rfl (i := 0) rfl Tryz.sizeOf34 rfl (rfl) rfl) (fun _ _ => ?_)
                refine RunL.nil ?_
                refine Ends.then ?_
                refine RunC.seq ?_
                refine RunC.region ?_
                refine RunL.still rfl rfl rfl (Still.fieldAddrL (off := 0) (off' := 0) rfl rfl Tryz.underlying34 rfl Tryz.sizeOf3 rfl) ?_
                refine RunL.still rfl rfl rfl (Still.load rfl rfl Tryz.isAgg3 (fun _ hs => cell_nth (hs.at (i := 0) rfl) rfl)) ?_
                refine RunL.still rfl rfl rfl (Still.geq rfl rfl rfl) ?_
                refine RunL.still rfl rfl rfl (Still.move rfl rfl) ?_
                refine RunL.split (t := 61) rfl (fun h61 => ?_) (fun h61 => ?_)
                · have h61 := of_decide_eq_true h61
                  have hF := okG_glued hok huN hf4 (by omega)
                  have hFl := hF.lo
                  have hFh := hF.hi
                  refine RunL.still rfl rfl rfl (Still.move rfl rfl) ?_
                  refine RunL.still rfl rfl rfl (Still.fieldAddrL (off := 0) (off' := 0) rfl rfl Tryz.underlying34 rfl Tryz.sizeOf3 rfl) ?_
                  refine RunL.still rfl rfl rfl (Still.load rfl rfl Tryz.isAgg3 (fun _ hs => cell_nth (hs.at (i := 0) rfl) rfl)) ?_
                  refine RunL.still rfl rfl rfl (Still.indexOwnI (m := (fAt g u f).tet.toNat) rfl rfl rfl Tryz.underlying36 Tryz.sizeOf3 (fun _ hs => hs.own (i := 1) rfl) (by omega) (by omega)) ?_
                  refine RunL.still rfl rfl rfl (Still.load rfl rfl Tryz.isAgg3 (fun w hs => own_at (hs.own (i := 1) rfl) (ints_get (getD_get' (by omega))))) ?_
                  refine RunL.still rfl rfl rfl (Still.lss rfl rfl rfl) ?_
                  refine RunL.still rfl rfl rfl (Still.pickT rfl rfl rfl) ?_
                  refine RunL.nil ?_
                  refine Ends.then ?_
                  refine RunC.cond rfl (fun h68 => ?_) (fun h68 => ?_)
                  · have h68 := of_decide_eq_true h68
                    refine RunC.seq ?_
                    refine RunC.region ?_
                    refine RunL.still rfl rfl rfl (Still.move rfl rfl) ?_
                    refine RunL.still rfl rfl rfl (Still.fieldAddrL (off := 0) (off' := 0) rfl rfl Tryz.underlying34 rfl Tryz.sizeOf3 rfl) ?_
                    refine RunL.still rfl rfl rfl (Still.load rfl rfl Tryz.isAgg3 (fun _ hs => cell_nth (hs.at (i := 0) rfl) rfl)) ?_
                    refine RunL.still rfl rfl rfl (Still.move rfl rfl) ?_
                    refine RunL.still rfl rfl rfl (Still.indexOwnI (m := (fAt g u f).tet.toNat) rfl rfl rfl Tryz.underlying36 Tryz.sizeOf3 (fun _ hs => hs.own (i := 1) rfl) (by omega) (by omega)) ?_
                    refine RunL.does0 rfl rfl (Does.storeOwn1 (xs' := (ints ((pTo g (pAll g t).2 u s f).1.set (fAt g u f).tet.toNat (pAll g t).2))) rfl rfl rfl rfl (i := 1) rfl Tryz.sizeOf3 rfl (by simp; omega) (ints_set _ _ _)) (fun _ _ => ?_)
                    refine RunL.nil ?_
                    refine Ends.then ?_
                    refine RunC.region ?_
                    refine RunL.still rfl rfl rfl (Still.move rfl rfl) ?_
                    refine RunL.still rfl rfl rfl (Still.fieldAddrL (off := 0) (off' := 0) rfl rfl Tryz.underlying34 rfl Tryz.sizeOf3 rfl) ?_
                    refine RunL.still rfl rfl rfl (Still.load rfl rfl Tryz.isAgg3 (fun _ hs => cell_nth (hs.at (i := 0) rfl) rfl)) ?_
                    refine RunL.grows rfl rfl rfl (Grows.slice1 rfl rfl Tryz.underlying36 Tryz.sizeOf3 rfl Tryz.zeroValue3 (by decide)) (fun b77 _ => ?_)
                    refine RunL.does rfl rfl rfl (Does.appendTo (n' := ((pTo g (pAll g t).2 u s f).2.length + 1)) (xs' := (nints ((pTo g (pAll g t).2 u s f).2 ++ [(fAt g u f).tet.toNat]))) (news := [_]) rfl rfl rfl rfl (i := 3) rfl Tryz.underlying36 (by kernel_rfl : (_ : Option _) = some (some (.int .i64 0), 1, 8)) rfl rfl (fun _ hs => cells_nth (hs.at (i := 0) rfl) ⟨rfl, trivial⟩) rfl rfl (by omega) (by omega) (rfl) ((congrArg (fun z => _ ++ [iv z]) (by omega)).trans (nints_snoc _ _))) (fun v78 hv78 => ?_)
                    refine RunL.still rfl rfl rfl (Still.assign rfl rfl) ?_
                    refine RunL.nil ?_
                    refine Ends.block ?_
                    refine Ends.then ?_
                    refine RunC.region ?_
                    refine RunL.still rfl rfl rfl (Still.add rfl rfl rfl (fits64 (by omega) (by omega))) ?_
                    refine RunL.still rfl rfl rfl (Still.move rfl rfl) ?_
                    refine RunL.nil ?_
                    have hgo : pTo g (pAll g t).2 u s (f + 1) = ((pTo g (pAll g t).2 u s f).1.set (fAt g u f).tet.toNat (pAll g t).2, (pTo g (pAll g t).2 u s f).2 ++ [(fAt g u f).tet.toNat]) := pFace_go (by omega) (by omega)
                    refine Ends.again (v78, f + 1) ?_ ?_ (Fr.Sub.app ?_ ?_) ?_
                    · show f + 1 ≤ 4; omega
                    · show 4 - (f + 1) < 4 - f; omega
                    · exact Fr.Sub.cons rfl (Fr.Sub.cons rfl (Fr.Sub.nil _))
                    · exact Fr.Sub.cons rfl (Fr.Sub.cons rfl (Fr.Sub.cons rfl (Fr.Sub.cons rfl (Fr.Sub.cons rfl (Fr.Sub.cons rfl (Fr.Sub.cons rfl (Fr.Sub.nil _)))))))
                    · exact HSub.pick 2 (by rw [hgo]; rfl) (HSub.pick 2 (by rw [hgo]; simp only [List.length_append, List.length_singleton]; rfl) (HSub.pick 2 rfl (HSub.nil _)))
                  · have h68 := of_decide_eq_false h68
                    refine RunC.skip ?_
                    refine Ends.block ?_
                    refine Ends.then ?_
                    refine RunC.region ?_
                    refine RunL.still rfl rfl rfl (Still.add rfl rfl rfl (fits64 (by omega) (by omega))) ?_
                    refine RunL.still rfl rfl rfl (Still.move rfl rfl) ?_
                    refine RunL.nil ?_
                    have hno : pTo g (pAll g t).2 u s (f + 1) = pTo g (pAll g t).2 u s f := pFace_no (by omega)
                    refine Ends.again (v, f + 1) ?_ ?_ (Fr.Sub.app ?_ ?_) ?_
                    · show f + 1 ≤ 4; omega
                    · show 4 - (f + 1) < 4 - f; omega
                    · exact Fr.Sub.cons rfl (Fr.Sub.cons rfl (Fr.Sub.nil _))
                    · exact Fr.Sub.cons rfl (Fr.Sub.cons rfl (Fr.Sub.cons rfl (Fr.Sub.cons rfl (Fr.Sub.cons rfl (Fr.Sub.cons rfl (Fr.Sub.cons rfl (Fr.Sub.nil _)))))))
                    · exact HSub.pick 1 (by rw [hno]; rfl) (HSub.pick 1 (by rw [hno]; rfl) (HSub.pick 1 rfl (HSub.nil _)))
                · have h61 := of_decide_eq_false h61
                  refine RunL.off rfl rfl rfl ?_
                  refine RunL.off rfl rfl rfl ?_
                  refine RunL.off rfl rfl rfl ?_
                  refine RunL.off rfl rfl rfl ?_
                  refine RunL.off rfl rfl rfl ?_
                  refine RunL.off rfl rfl rfl ?_
                  refine RunL.still rfl rfl rfl (Still.pickF rfl rfl rfl) ?_
                  refine RunL.nil ?_
                  refine Ends.then ?_
                  refine RunC.cond_false rfl ?_
                  refine RunC.skip ?_
                  refine Ends.block ?_
                  refine Ends.then ?_
                  refine RunC.region ?_
                  refine RunL.still rfl rfl rfl (Still.add rfl rfl rfl (fits64 (by omega) (by omega))) ?_
                  refine RunL.still rfl rfl rfl (Still.move rfl rfl) ?_
                  refine RunL.nil ?_
                  have hno : pTo g (pAll g t).2 u s (f + 1) = pTo g (pAll g t).2 u s f := pFace_no (by omega)
                  refine Ends.again (v, f + 1) ?_ ?_ (Fr.Sub.app ?_ ?_) ?_
                  · show f + 1 ≤ 4; omega
                  · show 4 - (f + 1) < 4 - f; omega
                  · exact Fr.Sub.cons rfl (Fr.Sub.cons rfl (Fr.Sub.nil _))
                  · exact Fr.Sub.cons rfl (Fr.Sub.cons rfl (Fr.Sub.cons rfl (Fr.Sub.cons rfl (Fr.Sub.cons rfl (Fr.Sub.cons rfl (Fr.Sub.cons rfl (Fr.Sub.nil _)))))))
                  · exact HSub.pick 1 (by rw [hno]; rfl) (HSub.pick 1 (by rw [hno]; rfl) (HSub.pick 1 rfl (HSub.nil _)))
              · have h56 := of_decide_eq_false h56
                obtain rfl : f = 4 := by omega
                refine RunC.exit ?_
                refine Ends.then_exit ?_
                refine Ends.then_exit ?_
                refine Ends.block_exit ?_
                refine Ends.block ?_
                refine Ends.then ?_
                refine RunC.region ?_
                refine RunL.still rfl rfl rfl (Still.move rfl rfl) ?_
                refine RunL.still rfl rfl rfl (Still.add rfl rfl rfl (fits64 (by omega) (by omega))) ?_
                refine RunL.still rfl rfl rfl (Still.assign rfl rfl) ?_
                refine RunL.nil ?_
                obtain ⟨k, rfl⟩ : ∃ m, k = m + 1 := ⟨k - 1, by have := (List.getElem?_eq_some_iff.1 hu).1; omega⟩
                refine Ends.again (v, pTo g (pAll g t).2 u s 4, i + 1, k) ?_ ?_ (Fr.Sub.app ?_ ?_) ?_
                · exact ⟨hP4, by rw [← hM, pBfs_step hu], by show i + 1 + k = _; omega⟩
                · exact Nat.lt_succ_self _
                · exact Fr.Sub.cons rfl (Fr.Sub.cons rfl (Fr.Sub.nil _))
                · exact Fr.Sub.cons rfl (Fr.Sub.cons rfl (Fr.Sub.cons rfl (Fr.Sub.cons rfl (Fr.Sub.cons rfl (Fr.Sub.nil _)))))
                · exact HSub.pick 0 rfl (HSub.pick 0 rfl (HSub.pick 0 rfl (HSub.nil _)))
            ·
              refine RunY.still rfl rfl rfl rfl (Still.load rfl rfl Tryz.isAgg3 (fun w hs => own_at (hs.own (i := 1) rfl) (nints_get hu))) ?_
              refine RunY.still rfl rfl rfl rfl (Still.load rfl rfl Tryz.isAgg22 (fun _ hs => cell_nth (hs.at (i := 2) rfl) rfl)) ?_
              refine RunY.pure rfl rfl rfl rfl (fun _ => Still.indexSliceN rfl rfl rfl Tryz.underlying22 Tryz.sizeOf35 (hg.base (by omega)) (by omega)) ?_
              refine RunY.still rfl rfl rfl rfl (Still.loads rfl rfl Tryz.isAgg35 Tryz.sizeOf35 (vs := [iv (tAt g u).f0.tet, iv (tAt g u).f0.p.a0, iv (tAt g u).f0.p.a1, iv (tAt g u).f0.p.a2, iv (tAt g u).f0.p.a3, iv (tAt g u).f1.tet, iv (tAt g u).f1.p.a0, iv (tAt g u).f1.p.a1, iv (tAt g u).f1.p.a2, iv (tAt g u).f1.p.a3, iv (tAt g u).f2.tet, iv (tAt g u).f2.p.a0, iv (tAt g u).f2.p.a1, iv (tAt g u).f2.p.a2, iv (tAt g u).f2.p.a3, iv (tAt g u).f3.tet, iv (tAt g u).f3.p.a0, iv (tAt g u).f3.p.a1, iv (tAt g u).f3.p.a2, iv (tAt g u).f3.p.a3]) rfl (fun _ hs => (hg.sym hs).cell u _ (tAt_get huN))) ?_
              refine RunY.done ?_
              refine Ends.then ?_
              refine RunC.block ?_
              refine RunC.loop2 (γ := Value × Nat) (keep := [(1, _), (4, _), (6, _), (9, _), (26, _), (27, _), (54, _)]) (hkeep := [_]) (fun (v, f) => f ≤ 4) (fun (v, f) => 4 - f) (fun (v, f) => [(8, v), (55, iv f)]) (fun (v, f) => [HL.own 3 1 (.slice (some ⟨b15, 0, none⟩) g.length g.length) g.length (ints (pTo g (pAll g t).2 u s f).1), HL.own 3 1 v (pTo g (pAll g t).2 u s f).2.length (nints (pTo g (pAll g t).2 u s f).2)]) (v, 0) (Nat.zero_le 4) (Fr.Sub.cons rfl (Fr.Sub.cons rfl (Fr.Sub.nil _))) (Fr.Sub.cons rfl (Fr.Sub.cons rfl (Fr.Sub.cons rfl (Fr.Sub.cons rfl (Fr.Sub.cons rfl (Fr.Sub.cons rfl (Fr.Sub.cons rfl (Fr.Sub.nil _)))))))) (HSub.pick 0 rfl (HSub.pick 0 rfl (HSub.pick 0 rfl (HSub.nil _)))) ?_
              rintro ⟨v, f⟩ hf
              have hf : f ≤ 4 := hf
              have hP4 := pTo_ok (n := (pAll g t).2) hn0 hok huN hP f hf
              have hq4 := pTo_pre (g := g) (n := (pAll g t).2) (t := u) hu f
              have hr4 := hP4.room
              have hl4 := hP4.len
              refine RunC.seq ?_
              refine RunC.region ?_
              refine RunL.still rfl rfl rfl (Still.lss rfl rfl rfl) ?_
              refine RunL.nil ?_
              refine Ends.then ?_
              refine RunC.seq ?_
              refine RunC.cond rfl (fun h56 => ?_) (fun h56 => ?_)
              · have h56 := of_decide_eq_true h56
                have hf4 : f < 4 := by omega
                refine RunC.skip ?_
                refine Ends.then ?_
                refine RunC.seq ?_
                refine RunC.block ?_
                refine RunC.seq ?_
                refine RunC.region ?_
                refine RunL.still rfl rfl rfl (Still.indexAgg rfl rfl rfl Tryz.underlying35 Tryz.sizeOf34 Tryz.isAgg34 ⟨by omega, by omega⟩ (ttV_fAt g u hf4)) ?_
                refine RunL.grows rfl rfl rfl (Grows.alloc rfl Tryz.zeroValue34) (fun b11 _ => ?_)
                refine RunL.does0 rfl rfl (Does.store rfl rfl rfl (i := 0) rfl Tryz.sizeOf34 rfl (rfl) rfl) (fun _ _ => ?_)
                refine RunL.nil ?_
                refine Ends.then ?_
                refine RunC.seq ?_
                refine RunC.region ?_
                refine RunL.still rfl rfl rfl (Still.fieldAddrL (off := 0) (off' := 0) rfl rfl Tryz.underlying34 rfl Tryz.sizeOf3 rfl) ?_
                refine RunL.still rfl rfl rfl (Still.load rfl rfl Tryz.isAgg3 (fun _ hs => cell_nth (hs.at (i := 0) rfl) rfl)) ?_
                refine RunL.still rfl rfl rfl (Still.geq rfl rfl rfl) ?_
                refine RunL.still rfl rfl rfl (Still.move rfl rfl) ?_
                refine RunL.split (t := 61) rfl (fun h61 => ?_) (fun h61 => ?_)
                · have h61 := of_decide_eq_true h61
                  have hF := okG_glued hok huN hf4 (by omega)
                  have hFl := hF.lo
                  have hFh := hF.hi
                  refine RunL.still rfl rfl rfl (Still.move rfl rfl) ?_
                  refine RunL.still rfl rfl rfl (Still.fieldAddrL (off := 0) (off' := 0) rfl rfl Tryz.underlying34 rfl Tryz.sizeOf3 rfl) ?_
                  refine RunL.still rfl rfl rfl (Still.load rfl rfl Tryz.isAgg3 (fun _ hs => cell_nth (hs.at (i := 0) rfl) rfl)) ?_
                  refine RunL.still rfl rfl rfl (Still.indexOwnI (m := (fAt g u f).tet.toNat) rfl rfl rfl Tryz.underlying36 Tryz.sizeOf3 (fun _ hs => hs.own (i := 1) rfl) (by omega) (by omega)) ?_
                  refine RunL.still rfl rfl rfl (Still.load rfl rfl Tryz.isAgg3 (fun w hs => own_at (hs.own (i := 1) rfl) (ints_get (getD_get' (by omega))))) ?_
                  refine RunL.still rfl rfl rfl (Still.lss rfl rfl rfl) ?_
                  refine RunL.still rfl rfl rfl (Still.pickT rfl rfl rfl) ?_
                  refine RunL.nil ?_
                  refine Ends.then ?_
                  refine RunC.cond rfl (fun h68 => ?_) (fun h68 => ?_)
                  · have h68 := of_decide_eq_true h68
                    refine RunC.seq ?_
                    refine RunC.region ?_
                    refine RunL.still rfl rfl rfl (Still.move rfl rfl) ?_
                    refine RunL.still rfl rfl rfl (Still.fieldAddrL (off := 0) (off' := 0) rfl rfl Tryz.underlying34 rfl Tryz.sizeOf3 rfl) ?_
                    refine RunL.still rfl rfl rfl (Still.load rfl rfl Tryz.isAgg3 (fun _ hs => cell_nth (hs.at (i := 0) rfl) rfl)) ?_
                    refine RunL.still rfl rfl rfl (Still.move rfl rfl) ?_
                    refine RunL.still rfl rfl rfl (Still.indexOwnI (m := (fAt g u f).tet.toNat) rfl rfl rfl Tryz.underlying36 Tryz.sizeOf3 (fun _ hs => hs.own (i := 1) rfl) (by omega) (by omega)) ?_
                    refine RunL.does0 rfl rfl (Does.storeOwn1 (xs' := (ints ((pTo g (pAll g t).2 u s f).1.set (fAt g u f).tet.toNat (pAll g t).2))) rfl rfl rfl rfl (i := 1) rfl Tryz.sizeOf3 rfl (by simp; omega) (ints_set _ _ _)) (fun _ _ => ?_)
                    refine RunL.nil ?_
                    refine Ends.then ?_
                    refine RunC.region ?_
                    refine RunL.still rfl rfl rfl (Still.move rfl rfl) ?_
                    refine RunL.still rfl rfl rfl (Still.fieldAddrL (off := 0) (off' := 0) rfl rfl Tryz.underlying34 rfl Tryz.sizeOf3 rfl) ?_
                    refine RunL.still rfl rfl rfl (Still.load rfl rfl Tryz.isAgg3 (fun _ hs => cell_nth (hs.at (i := 0) rfl) rfl)) ?_
                    refine RunL.grows rfl rfl rfl (Grows.slice1 rfl rfl Tryz.underlying36 Tryz.sizeOf3 rfl Tryz.zeroValue3 (by decide)) (fun b77 _ => ?_)
                    refine RunL.does rfl rfl rfl (Does.appendTo (n' := ((pTo g (pAll g t).2 u s f).2.length + 1)) (xs' := (nints ((pTo g (pAll g t).2 u s f).2 ++ [(fAt g u f).tet.toNat]))) (news := [_]) rfl rfl rfl rfl (i := 3) rfl Tryz.underlying36 (by kernel_rfl : (_ : Option _) = some (some (.int .i64 0), 1, 8)) rfl rfl (fun _ hs => cells_nth (hs.at (i := 0) rfl) ⟨rfl, trivial⟩) rfl rfl (by omega) (by omega) (rfl) ((congrArg (fun z => _ ++ [iv z]) (by omega)).trans (nints_snoc _ _))) (fun v78 hv78 => ?_)
                    refine RunL.still rfl rfl rfl (Still.assign rfl rfl) ?_
                    refine RunL.nil ?_
                    refine Ends.block ?_
                    refine Ends.then ?_
                    refine RunC.region ?_
                    refine RunL.still rfl rfl rfl (Still.add rfl rfl rfl (fits64 (by omega) (by omega))) ?_
                    refine RunL.still rfl rfl rfl (Still.move rfl rfl) ?_
                    refine RunL.nil ?_
                    have hgo : pTo g (pAll g t).2 u s (f + 1) = ((pTo g (pAll g t).2 u s f).1.set (fAt g u f).tet.toNat (pAll g t).2, (pTo g (pAll g t).2 u s f).2 ++ [(fAt g u f).tet.toNat]) := pFace_go (by omega) (by omega)
                    refine Ends.again (v78, f + 1) ?_ ?_ (Fr.Sub.app ?_ ?_) ?_
                    · show f + 1 ≤ 4; omega
                    · show 4 - (f + 1) < 4 - f; omega
                    · exact Fr.Sub.cons rfl (Fr.Sub.cons rfl (Fr.Sub.nil _))
                    · exact Fr.Sub.cons rfl (Fr.Sub.cons rfl (Fr.Sub.cons rfl (Fr.Sub.cons rfl (Fr.Sub.cons rfl (Fr.Sub.cons rfl (Fr.Sub.cons rfl (Fr.Sub.nil _)))))))
                    · exact HSub.pick 2 (by rw [hgo]; rfl) (HSub.pick 2 (by rw [hgo]; simp only [List.length_append, List.length_singleton]; rfl) (HSub.pick 2 rfl (HSub.nil _)))
                  · have h68 := of_decide_eq_false h68
                    refine RunC.skip ?_
                    refine Ends.block ?_
                    refine Ends.then ?_
                    refine RunC.region ?_
                    refine RunL.still rfl rfl rfl (Still.add rfl rfl rfl (fits64 (by omega) (by omega))) ?_
                    refine RunL.still rfl rfl rfl (Still.move rfl rfl) ?_
                    refine RunL.nil ?_
                    have hno : pTo g (pAll g t).2 u s (f + 1) = pTo g (pAll g t).2 u s f := pFace_no (by omega)
                    refine Ends.again (v, f + 1) ?_ ?_ (Fr.Sub.app ?_ ?_) ?_
                    · show f + 1 ≤ 4; omega
                    · show 4 - (f + 1) < 4 - f; omega
                    · exact Fr.Sub.cons rfl (Fr.Sub.cons rfl (Fr.Sub.nil _))
                    · exact Fr.Sub.cons rfl (Fr.Sub.cons rfl (Fr.Sub.cons rfl (Fr.Sub.cons rfl (Fr.Sub.cons rfl (Fr.Sub.cons rfl (Fr.Sub.cons rfl (Fr.Sub.nil _)))))))
                    · exact HSub.pick 1 (by rw [hno]; rfl) (HSub.pick 1 (by rw [hno]; rfl) (HSub.pick 1 rfl (HSub.nil _)))
                · have h61 := of_decide_eq_false h61
                  refine RunL.off rfl rfl rfl ?_
                  refine RunL.off rfl rfl rfl ?_
                  refine RunL.off rfl rfl rfl ?_
                  refine RunL.off rfl rfl rfl ?_
                  refine RunL.off rfl rfl rfl ?_
                  refine RunL.off rfl rfl rfl ?_
                  refine RunL.still rfl rfl rfl (Still.pickF rfl rfl rfl) ?_
                  refine RunL.nil ?_
                  refine Ends.then ?_
                  refine RunC.cond_false rfl ?_
                  refine RunC.skip ?_
                  refine Ends.block ?_
                  refine Ends.then ?_
                  refine RunC.region ?_
                  refine RunL.still rfl rfl rfl (Still.add rfl rfl rfl (fits64 (by omega) (by omega))) ?_
                  refine RunL.still rfl rfl rfl (Still.move rfl rfl) ?_
                  refine RunL.nil ?_
                  have hno : pTo g (pAll g t).2 u s (f + 1) = pTo g (pAll g t).2 u s f := pFace_no (by omega)
                  refine Ends.again (v, f + 1) ?_ ?_ (Fr.Sub.app ?_ ?_) ?_
                  · show f + 1 ≤ 4; omega
                  · show 4 - (f + 1) < 4 - f; omega
                  · exact Fr.Sub.cons rfl (Fr.Sub.cons rfl (Fr.Sub.nil _))
                  · exact Fr.Sub.cons rfl (Fr.Sub.cons rfl (Fr.Sub.cons rfl (Fr.Sub.cons rfl (Fr.Sub.cons rfl (Fr.Sub.cons rfl (Fr.Sub.cons rfl (Fr.Sub.nil _)))))))
                  · exact HSub.pick 1 (by rw [hno]; rfl) (HSub.pick 1 (by rw [hno]; rfl) (HSub.pick 1 rfl (HSub.nil _)))
              · have h56 := of_decide_eq_false h56
                obtain rfl : f = 4 := by omega
                refine RunC.exit ?_
                refine Ends.then_exit ?_
                refine Ends.then_exit ?_
                refine Ends.block_exit ?_
                refine Ends.block ?_
                refine Ends.then ?_
                refine RunC.region ?_
                refine RunL.still rfl rfl rfl (Still.move rfl rfl) ?_
                refine RunL.still rfl rfl rfl (Still.add rfl rfl rfl (fits64 (by omega) (by omega))) ?_
                refine RunL.still rfl rfl rfl (Still.assign rfl rfl) ?_
                refine RunL.nil ?_
                obtain ⟨k, rfl⟩ : ∃ m, k = m + 1 := ⟨k - 1, by have := (List.getElem?_eq_some_iff.1 hu).1; omega⟩
                refine Ends.again (v, pTo g (pAll g t).2 u s 4, i + 1, k) ?_ ?_ (Fr.Sub.app ?_ ?_) ?_
                · exact ⟨hP4, by rw [← hM, pBfs_step hu], by show i + 1 + k = _; omega⟩
                · exact Nat.lt_succ_self _
                · exact Fr.Sub.cons rfl (Fr.Sub.cons rfl (Fr.Sub.nil _))
                · exact Fr.Sub.cons rfl (Fr.Sub.cons rfl (Fr.Sub.cons rfl (Fr.Sub.cons rfl (Fr.Sub.cons rfl (Fr.Sub.nil _)))))
                · exact HSub.pick 0 rfl (HSub.pick 0 rfl (HSub.pick 0 rfl (HSub.nil _)))
        · have h44 := of_decide_eq_false h44
          refine RunC.exit ?_
          refine Ends.then_exit ?_
          refine Ends.then_exit ?_
          refine Ends.block_exit ?_
          refine Ends.then ?_
          refine RunC.region ?_
          refine RunL.still rfl rfl rfl (Still.move rfl rfl) ?_
          refine RunL.still rfl rfl rfl (Still.add rfl rfl rfl (fits64 (by omega) (by omega))) ?_
          refine RunL.still rfl rfl rfl (Still.assign rfl rfl) ?_
          refine RunL.nil ?_
          refine Ends.block ?_
          refine Ends.then ?_
          refine RunC.region ?_
          refine RunL.still rfl rfl rfl (Still.add rfl rfl rfl (fits64 (by omega) (by omega))) ?_
          refine RunL.still rfl rfl rfl (Still.move rfl rfl) ?_
          refine RunL.nil ?_
          have hfin : pAll g (t + 1) = (s.1, (pAll g t).2 + 1) := by rw [pAll_new hge, ← hM, pBfs_done (by omega)]
          refine Ends.again (t + 1) ?_ ?_ (Fr.Sub.app ?_ ?_) ?_
          · show _; omega
          · show _ < _; omega
          · exact Fr.Sub.cons (by rw [hfin]; rfl) (Fr.Sub.cons rfl (Fr.Sub.nil _))
          · exact Fr.Sub.cons rfl (Fr.Sub.cons rfl (Fr.Sub.cons rfl (Fr.Sub.nil _)))
          · exact HSub.pick 0 (by rw [hfin]; rfl) (HSub.pick 1 rfl (HSub.nil _))
    · have h28 := of_decide_eq_false h28
      obtain rfl : t = g.length := by omega
      refine RunC.exit ?_
      refine Ends.then_exit ?_
      refine Ends.then_exit ?_
      refine Ends.block_exit ?_
      refine Ends.then ?_
      refine RunC.seq ?_
      refine RunC.region ?_
      refine RunL.still rfl rfl rfl (Still.move rfl rfl) ?_
      refine RunL.still rfl rfl rfl (Still.move rfl rfl) ?_
      refine RunL.still rfl rfl rfl (Still.assign rfl rfl) ?_
      refine RunL.still rfl rfl rfl (Still.assign rfl rfl) ?_
      refine RunL.nil ?_
      refine Ends.then ?_
      refine RunC.ret ?_
      refine Ends.leave (.inl rfl) (fun _ _ ok => results2 Tryz.results49 (Holds.tmp rfl) (Holds.tmp rfl) ok) (fun w1 hs => ?_)
      exact Ret.intro b15 trivial (by rfl) (HSub.pick 0 rfl (HSub.nil _)) hs

theorem gl_Parts (base : Option Addr) (A : Addr) (cap : Nat) (g : Glu) (w : World) (hg : GluAt w base A g) (hok : okG g = true) : Gives Tryz.prog 16 #[gluV base cap g] w Nil (fun _ : Nat => True) (fun b => .tuple #[.slice (some ⟨b, 0, none⟩) g.length g.length, iv 0]) (fun b => [HL.own 3 1 (.slice (some ⟨b, 0, none⟩) g.length g.length) g.length (ints (partsOf g))]) := by
  refine fn_of_run (S := Nil) (args := [gluV base cap g]) (n := 18) (L := []) Tryz.func16 rfl Tryz.ntmps16 (Nat.le_of_ble_eq_true rfl) (Sym.nil _ _) ?_
  change RunC _ _ _ [(0, _)] _
  refine RunC.seq ?_
  refine RunC.region ?_
  refine RunL.grows rfl rfl rfl (Grows.box rfl rfl) (fun b1 _ => ?_)
  refine RunL.still rfl rfl rfl (Still.assign rfl rfl) ?_
  refine RunL.still rfl rfl rfl (Still.assign rfl rfl) ?_
  refine RunL.nil ?_
  refine Ends.then ?_
  refine RunC.seq ?_
  refine RunC.seq ?_
  refine RunC.region ?_
  refine RunL.still rfl rfl rfl (Still.loads rfl rfl Tryz.isAgg24 Tryz.sizeOf24 (vs := [_]) rfl (fun _ hs => cells_nth (hs.at (i := 0) rfl) ⟨rfl, trivial⟩)) ?_
  refine RunL.grows rfl rfl rfl (Grows.call (vs := #[_]) rfl rfl Tryz.call14 (fun w hs => gl_Check base A cap g w (hg.sym hs))) (fun _ _ => ?_)
  refine RunL.still rfl rfl rfl (Still.assign rfl rfl) ?_
  refine RunL.nil ?_
  refine Ends.then ?_
  refine RunC.seq ?_
  refine RunC.region ?_
  refine RunL.still rfl rfl rfl (Still.move rfl rfl) ?_
  refine RunL.still rfl rfl rfl (Still.neq rfl rfl rfl) ?_
  refine RunL.nil ?_
  refine Ends.then ?_
  refine RunC.cond rfl (fun h10 => ?_) (fun h10 => ?_)
  · have h10 := of_decide_eq_true h10
    exact absurd (chkG_ok hok) h10
  · have h10 := of_decide_eq_false h10
    refine RunC.skip ?_
    refine Ends.then ?_
    refine RunC.seq ?_
    refine RunC.region ?_
    refine RunL.still rfl rfl rfl (Still.loads rfl rfl Tryz.isAgg24 Tryz.sizeOf24 (vs := [_]) rfl (fun _ hs => cells_nth (hs.at (i := 0) rfl) ⟨rfl, trivial⟩)) ?_
    refine RunL.grows rfl rfl rfl (Grows.call (vs := #[_]) rfl rfl Tryz.call49 (fun w hs => gl_parts base A cap g w (hg.sym hs) hok)) (fun pb _ => ?_)
    refine RunL.still rfl rfl rfl (Still.move rfl rfl) ?_
    refine RunL.still rfl rfl rfl (Still.extractN rfl rfl rfl) ?_
    refine RunL.still rfl rfl rfl (Still.extractN rfl rfl rfl) ?_
    refine RunL.still rfl rfl rfl (Still.assign rfl rfl) ?_
    refine RunL.still rfl rfl rfl (Still.assign rfl rfl) ?_
    refine RunL.nil ?_
    refine Ends.then ?_
    refine RunC.seq ?_
    refine RunC.region ?_
    refine RunL.still rfl rfl rfl (Still.move rfl rfl) ?_
    refine RunL.still rfl rfl rfl (Still.assign rfl rfl) ?_
    refine RunL.still rfl rfl rfl (Still.assign rfl rfl) ?_
    refine RunL.nil ?_
    refine Ends.then ?_
    refine RunC.ret ?_
    refine Ends.leave (.inl rfl) (fun _ _ ok => results2 Tryz.results16 (Holds.tmp rfl) (Holds.tmp rfl) ok) (fun w1 hs => ?_)
    exact Ret.intro pb trivial rfl (HSub.pick 0 rfl (HSub.nil _)) hs

theorem rf_Parts (base : Option Addr) (A : Addr) (cap : Nat) (g : Glu) (w : World) (hg : GluAt w base A g) (hok : okG g = true) : Gives Tryz.prog 30 #[gluV base cap g] w Nil (fun _ : Nat => True) (fun b => .tuple #[.slice (some ⟨b, 0, none⟩) g.length g.length, iv 0]) (fun b => [HL.own 3 1 (.slice (some ⟨b, 0, none⟩) g.length g.length) g.length (ints (partsOf g))]) := by
  have hlen := hg.len
  have h1000 := okG_len hok
  refine fn_of_run (S := Nil) (args := [gluV base cap g]) (n := 86) (L := []) Tryz.func30 rfl Tryz.ntmps30 (Nat.le_of_ble_eq_true rfl) (Sym.nil _ _) ?_
  change RunC _ _ _ [(0, _)] _
  refine RunC.seq ?_
  refine RunC.region ?_
  refine RunL.grows rfl rfl rfl (Grows.box rfl rfl) (fun b1 _ => ?_)
  refine RunL.still rfl rfl rfl (Still.assign rfl rfl) ?_
  refine RunL.still rfl rfl rfl (Still.assign rfl rfl) ?_
  refine RunL.nil ?_
  refine Ends.then ?_
  refine RunC.seq ?_
  refine RunC.seq ?_
  refine RunC.region ?_
  refine RunL.still rfl rfl rfl (Still.loads rfl rfl Tryz.isAgg24 Tryz.sizeOf24 (vs := [_]) rfl (fun _ hs => cells_nth (hs.at (i := 0) rfl) ⟨rfl, trivial⟩)) ?_
  refine RunL.grows rfl rfl rfl (Grows.call (vs := #[_]) rfl rfl Tryz.call11 (fun w hs => rf_Check base A cap g w (hg.sym hs))) (fun _ _ => ?_)
  refine RunL.still rfl rfl rfl (Still.neq rfl rfl rfl) ?_
  refine RunL.nil ?_
  refine Ends.then ?_
  refine RunC.cond rfl (fun h14 => ?_) (fun h14 => ?_)
  · have h14 := of_decide_eq_true h14
    exact absurd (chkG_ok hok) h14
  · have h14 := of_decide_eq_false h14
    refine RunC.skip ?_
    refine Ends.then ?_
    refine RunC.seq ?_
    refine RunC.region ?_
    refine RunL.still rfl rfl rfl (Still.fieldAddrL (off := 0) (off' := 0) rfl rfl Tryz.underlying24 rfl Tryz.sizeOf22 rfl) ?_
    refine RunL.still rfl rfl rfl (Still.load rfl rfl Tryz.isAgg22 (fun _ hs => cell_nth (hs.at (i := 0) rfl) rfl)) ?_
    refine RunL.still rfl rfl rfl (Still.lenSlice rfl rfl Tryz.underlying22) ?_
    refine RunL.grows rfl rfl rfl (Grows.make (n := g.length) (xs := (ints (List.replicate g.length 0))) rfl rfl rfl Tryz.underlying36 (by kernel_rfl : (_ : Option _) = some (some (.int .i64 0), 1, 8)) rfl (by omega) (by omega) (zeros_one _ _ |>.trans (ints_replicate _ _))) (fun b18 _ => ?_)
    refine RunL.still rfl rfl rfl (Still.assign rfl rfl) ?_
    refine RunL.nil ?_
    refine Ends.then ?_
    refine RunC.seq ?_
    refine RunC.seq ?_
    refine RunC.region ?_
    refine RunL.still rfl rfl rfl (Still.assign rfl rfl) ?_
    refine RunL.nil ?_
    refine Ends.then ?_
    refine RunC.block ?_
    refine RunC.loop2 (γ := Nat) (keep := [(1, _), (4, _)]) (hkeep := [_]) (fun a => a ≤ g.length) (fun a => g.length - a) (fun a => [(5, iv a)]) (fun a => [HL.own 3 1 (.slice (some ⟨b18, 0, none⟩) g.length g.length) g.length (ints (negTo g.length a))]) 0 (by omega) (Fr.Sub.cons rfl (Fr.Sub.nil _)) (Fr.Sub.cons rfl (Fr.Sub.cons rfl (Fr.Sub.nil _))) (HSub.pick 0 (by rw [negTo_zero]; rfl) (HSub.pick 0 rfl (HSub.nil _))) ?_
    rintro a ha
    refine RunC.seq ?_
    refine RunC.seq ?_
    refine RunC.region ?_
    refine RunL.still rfl rfl rfl (Still.move rfl rfl) ?_
    refine RunL.still rfl rfl rfl (Still.move rfl rfl) ?_
    refine RunL.still rfl rfl rfl (Still.lenOwn rfl rfl Tryz.underlying36 (fun _ hs => hs.own (i := 0) rfl)) ?_
    refine RunL.still rfl rfl rfl (Still.lss rfl rfl rfl) ?_
    refine RunL.nil ?_
    refine Ends.then ?_
    refine RunC.cond rfl (fun h22 => ?_) (fun h22 => ?_)
    · have h22 := of_decide_eq_true h22
      refine RunC.skip ?_
      refine Ends.then ?_
      refine RunC.seq ?_
      refine RunC.block ?_
      refine RunC.region ?_
      refine RunL.still rfl rfl rfl (Still.move rfl rfl) ?_
      refine RunL.still rfl rfl rfl (Still.move rfl rfl) ?_
      refine RunL.still rfl rfl rfl (Still.indexOwn rfl rfl rfl Tryz.underlying36 Tryz.sizeOf3 (fun _ hs => hs.own (i := 0) rfl) (by omega)) ?_
      refine RunL.does0 rfl rfl (Does.storeOwn1 (xs' := (ints (negTo g.length (a + 1)))) rfl rfl rfl rfl (i := 0) rfl Tryz.sizeOf3 rfl (by simp [negTo_len]; omega) ((ints_set _ _ _).trans (congrArg ints (negTo_succ (by omega))))) (fun _ _ => ?_)
      refine RunL.nil ?_
      refine Ends.block ?_
      refine Ends.then ?_
      refine RunC.region ?_
      refine RunL.still rfl rfl rfl (Still.move rfl rfl) ?_
      refine RunL.still rfl rfl rfl (Still.add rfl rfl rfl (fits64 (by omega) (by omega))) ?_
      refine RunL.still rfl rfl rfl (Still.assign rfl rfl) ?_
      refine RunL.nil ?_
      refine Ends.again (a + 1) ?_ ?_ (Fr.Sub.app ?_ ?_) ?_
      · show _; omega
      · show _ < _; omega
      · exact Fr.Sub.cons rfl (Fr.Sub.nil _)
      · exact Fr.Sub.cons rfl (Fr.Sub.cons rfl (Fr.Sub.nil _))
      · exact HSub.pick 0 rfl (HSub.pick 0 rfl (HSub.nil _))
    · have h22 := of_decide_eq_false h22
      refine RunC.exit ?_
      refine Ends.then_exit ?_
      refine Ends.then_exit ?_
      refine Ends.block_exit ?_
      refine Ends.then ?_
      refine RunC.seq ?_
      refine RunC.region ?_
      refine RunL.still rfl rfl rfl (Still.assign rfl rfl) ?_
      refine RunL.nil ?_
      refine Ends.then ?_
      refine RunC.seq ?_
      refine RunC.seq ?_
      refine RunC.region ?_
      refine RunL.still rfl rfl rfl (Still.assign rfl rfl) ?_
      refine RunL.nil ?_
      refine Ends.then ?_
      refine RunC.block ?_
      refine RunC.loop2 (γ := Nat) (keep := [(1, _), (4, _)]) (hkeep := [_]) (fun t => t ≤ g.length) (fun t => g.length - t) (fun t => [(6, iv (pAll g t).2), (7, iv t)]) (fun t => [HL.own 3 1 (.slice (some ⟨b18, 0, none⟩) g.length g.length) g.length (ints (pAll g t).1)]) 0 (by omega) (Fr.Sub.cons rfl (Fr.Sub.cons rfl (Fr.Sub.nil _))) (Fr.Sub.cons rfl (Fr.Sub.cons rfl (Fr.Sub.nil _))) (HSub.pick 0 (by rw [show a = g.length by omega, negTo_all]; rfl) (HSub.pick 0 rfl (HSub.nil _))) ?_
      rintro t ht
      obtain ⟨hpl, hn0, hnt⟩ := pAll_ok hok t ht
      refine RunC.seq ?_
      refine RunC.seq ?_
      refine RunC.region ?_
      refine RunL.still rfl rfl rfl (Still.move rfl rfl) ?_
      refine RunL.still rfl rfl rfl (Still.move rfl rfl) ?_
      refine RunL.still rfl rfl rfl (Still.lenOwn rfl rfl Tryz.underlying36 (fun _ hs => hs.own (i := 0) rfl)) ?_
      refine RunL.still rfl rfl rfl (Still.lss rfl rfl rfl) ?_
      refine RunL.nil ?_
      refine Ends.then ?_
      refine RunC.cond rfl (fun h31 => ?_) (fun h31 => ?_)
      · have h31 := of_decide_eq_true h31
        have htN : t < g.length := by omega
        refine RunC.skip ?_
        refine Ends.then ?_
        refine RunC.seq ?_
        refine RunC.block ?_
        refine RunC.seq ?_
        refine RunC.seq ?_
        refine RunC.region ?_
        refine RunL.still rfl rfl rfl (Still.move rfl rfl) ?_
        refine RunL.still rfl rfl rfl (Still.move rfl rfl) ?_
        refine RunL.still rfl rfl rfl (Still.indexOwn rfl rfl rfl Tryz.underlying36 Tryz.sizeOf3 (fun _ hs => hs.own (i := 0) rfl) (by omega)) ?_
        refine RunL.still rfl rfl rfl (Still.load rfl rfl Tryz.isAgg3 (fun w hs => own_at (hs.own (i := 0) rfl) (ints_get (getD_get' (by omega))))) ?_
        refine RunL.still rfl rfl rfl (Still.geq rfl rfl rfl) ?_
        refine RunL.nil ?_
        refine Ends.then ?_
        refine RunC.cond rfl (fun h38 => ?_) (fun h38 => ?_)
        · have h38 := of_decide_eq_true h38
          refine RunC.exit ?_
          refine Ends.then_exit ?_
          refine Ends.block_exit ?_
          refine Ends.then ?_
          refine RunC.region ?_
          refine RunL.still rfl rfl rfl (Still.move rfl rfl) ?_
          refine RunL.still rfl rfl rfl (Still.add rfl rfl rfl (fits64 (by omega) (by omega))) ?_
          refine RunL.still rfl rfl rfl (Still.assign rfl rfl) ?_
          refine RunL.nil ?_
          refine Ends.again (t + 1) ?_ ?_ (Fr.Sub.app ?_ ?_) ?_
          · show _; omega
          · show _ < _; omega
          · exact Fr.Sub.cons (by rw [pAll_keep h38]; rfl) (Fr.Sub.cons rfl (Fr.Sub.nil _))
          · exact Fr.Sub.cons rfl (Fr.Sub.cons rfl (Fr.Sub.nil _))
          · exact HSub.pick 0 (by rw [pAll_keep h38]; rfl) (HSub.pick 0 rfl (HSub.nil _))
        · have h38 := of_decide_eq_false h38
          have hge := h38
          refine RunC.skip ?_
          refine Ends.then ?_
          refine RunC.seq ?_
          refine RunC.region ?_
          refine RunL.still rfl rfl rfl (Still.move rfl rfl) ?_
          refine RunL.grows rfl rfl rfl (Grows.slice1 rfl rfl Tryz.underlying36 Tryz.sizeOf3 rfl Tryz.zeroValue3 (by decide)) (fun b40 _ => ?_)
          refine RunL.conv (fun _ hs => Sym.obj_own (k := 1) (n := 1) hs rfl (by omega)) ?_
          refine RunL.still rfl rfl rfl (Still.assign rfl rfl) ?_
          refine RunL.nil ?_
          refine Ends.then ?_
          refine RunC.seq ?_
          refine RunC.region ?_
          refine RunL.still rfl rfl rfl (Still.move rfl rfl) ?_
          refine RunL.still rfl rfl rfl (Still.move rfl rfl) ?_
          refine RunL.still rfl rfl rfl (Still.move rfl rfl) ?_
          refine RunL.still rfl rfl rfl (Still.indexOwn rfl rfl rfl Tryz.underlying36 Tryz.sizeOf3 (fun _ hs => hs.own (i := 1) rfl) (by omega)) ?_
          refine RunL.does0 rfl rfl (Does.storeOwn1 (xs' := (ints ((pAll g t).1.set t (pAll g t).2))) rfl rfl rfl rfl (i := 1) rfl Tryz.sizeOf3 rfl (by simp; omega) (ints_set _ _ _)) (fun _ _ => ?_)
          refine RunL.nil ?_
          refine Ends.then ?_
          refine RunC.seq ?_
          refine RunC.seq ?_
          refine RunC.region ?_
          refine RunL.still rfl rfl rfl (Still.assign rfl rfl) ?_
          refine RunL.nil ?_
          refine Ends.then ?_
          refine RunC.block ?_
          refine RunC.loop2 (γ := Value × BSt × Nat × Nat) (keep := [(1, _), (4, _), (6, _), (7, _)]) (hkeep := [_]) (fun (v, s, i, k) => PSt g s ∧ pBfs g (pAll g t).2 k i s = pBfs g (pAll g t).2 g.length 0 ((pAll g t).1.set t (pAll g t).2, [t]) ∧ i + k = g.length) (fun (v, s, i, k) => k) (fun (v, s, i, k) => [(8, v), (9, iv i)]) (fun (v, s, i, k) => [HL.own 3 1 (.slice (some ⟨b18, 0, none⟩) g.length g.length) g.length (ints s.1), HL.own 3 1 v s.2.length (nints s.2)]) (.slice (some ⟨b40, 0, none⟩) 1 1, ((pAll g t).1.set t (pAll g t).2, [t]), 0, g.length) ⟨PSt.start hpl (by omega) hn0 (by omega), rfl, by omega⟩ (Fr.Sub.cons rfl (Fr.Sub.cons rfl (Fr.Sub.nil _))) (Fr.Sub.cons rfl (Fr.Sub.cons rfl (Fr.Sub.cons rfl (Fr.Sub.cons rfl (Fr.Sub.nil _))))) (HSub.pick 1 rfl (HSub.pick 0 (by rfl) (HSub.pick 0 rfl (HSub.nil _)))) ?_
          rintro ⟨v, s, i, k⟩ ⟨hP, hM, hik⟩
          have hP : PSt g s := hP
          have hik : i + k = g.length := hik
          have hroom := hP.room
          refine RunC.seq ?_
          refine RunC.seq ?_
          refine RunC.region ?_
          refine RunL.still rfl rfl rfl (Still.move rfl rfl) ?_
          refine RunL.still rfl rfl rfl (Still.move rfl rfl) ?_
          refine RunL.still rfl rfl rfl (Still.lenOwn rfl rfl Tryz.underlying36 (fun _ hs => hs.own (i := 1) rfl)) ?_
          refine RunL.still rfl rfl rfl (Still.lss rfl rfl rfl) ?_
          refine RunL.nil ?_
          refine Ends.then ?_
          refine RunC.cond rfl (fun h48 => ?_) (fun h48 => ?_)
          · have h48 := of_decide_eq_true h48
            obtain ⟨u, hu⟩ := get_of_lt (l := s.2) (i := i) (by omega)
            have huN : u < g.length := hP.mem u (List.mem_of_getElem? hu)
            refine RunC.skip ?_
            refine Ends.then ?_
            refine RunC.seq ?_
            refine RunC.block ?_
            refine RunC.seq ?_
            refine RunC.region ?_
            refine RunL.still rfl rfl rfl (Still.assign rfl rfl) ?_
            refine RunL.nil ?_
            refine Ends.then ?_
            refine RunC.block ?_
            refine RunC.loop2 (γ := Value × Nat) (keep := [(1, _), (4, _), (6, _), (7, _), (9, _)]) (hkeep := [_]) (fun (v, f) => f ≤ 4) (fun (v, f) => 4 - f) (fun (v, f) => [(8, v), (10, iv f)]) (fun (v, f) => [HL.own 3 1 (.slice (some ⟨b18, 0, none⟩) g.length g.length) g.length (ints (pTo g (pAll g t).2 u s f).1), HL.own 3 1 v (pTo g (pAll g t).2 u s f).2.length (nints (pTo g (pAll g t).2 u s f).2)]) (v, 0) (Nat.zero_le 4) (Fr.Sub.cons rfl (Fr.Sub.cons rfl (Fr.Sub.nil _))) (Fr.Sub.cons rfl (Fr.Sub.cons rfl (Fr.Sub.cons rfl (Fr.Sub.cons rfl (Fr.Sub.cons rfl (Fr.Sub.nil _)))))) (HSub.pick 0 rfl (HSub.pick 0 rfl (HSub.pick 0 rfl (HSub.nil _)))) ?_
            rintro ⟨v, f⟩ hf
            have hf : f ≤ 4 := hf
            have hP4 := pTo_ok (n := (pAll g t).2) hn0 hok huN hP f hf
            have hq4 := pTo_pre (g := g) (n := (pAll g t).2) (t := u) hu f
            have hr4 := hP4.room
            have hl4 := hP4.len
            refine RunC.seq ?_
            refine RunC.seq ?_
            refine RunC.region ?_
            refine RunL.still rfl rfl rfl (Still.move rfl rfl) ?_
            refine RunL.still rfl rfl rfl (Still.lss rfl rfl rfl) ?_
            refine RunL.nil ?_
            refine Ends.then ?_
            refine RunC.cond rfl (fun h52 => ?_) (fun h52 => ?_)
            · have h52 := of_decide_eq_true h52
              have hf4 : f < 4 := by omega
              refine RunC.skip ?_
              refine Ends.then ?_
              refine RunC.seq ?_
              refine RunC.block ?_
              refine RunC.seq ?_
              refine RunC.draw 11 (.still 0 (.still 1 (.still 2 (.still 3 (.still 4 (.still 5 (.still 6 (.still 7 (.still 8 (.still 9 (.still 10 .done))))))))))) (by kernel_rfl) (by kernel_rfl) ?_
              refine RunG.still rfl rfl rfl rfl (Still.fieldAddrL (off := 0) (off' := 0) rfl rfl Tryz.underlying24 rfl Tryz.sizeOf22 rfl) ?_
              refine RunG.still rfl rfl rfl rfl (Still.load rfl rfl Tryz.isAgg22 (fun _ hs => cell_nth (hs.at (i := 2) rfl) rfl)) ?_
              refine RunG.still rfl rfl rfl rfl (Still.move rfl rfl) ?_
              refine RunG.still rfl rfl rfl rfl (Still.move rfl rfl) ?_
              have hi4 := (List.getElem?_eq_some_iff.1 hq4).1
              refine RunG.still rfl rfl rfl rfl (Still.indexOwn rfl rfl rfl Tryz.underlying36 Tryz.sizeOf3 (fun _ hs => hs.own (i := 1) rfl) (by omega)) ?_
              refine RunG.still rfl rfl rfl rfl (Still.load rfl rfl Tryz.isAgg3 (fun w hs => own_at (hs.own (i := 1) rfl) (nints_get hq4))) ?_
              refine RunG.still rfl rfl rfl rfl (Still.move rfl rfl) ?_
              refine RunG.still rfl rfl rfl rfl (Still.indexSliceN rfl rfl rfl Tryz.underlying22 Tryz.sizeOf35 (hg.base (by omega)) (by omega)) ?_
              refine RunG.still rfl rfl rfl rfl (Still.indexArrN rfl rfl rfl Tryz.underlying35 Tryz.sizeOf34 (by omega)) ?_
              refine RunG.still rfl rfl rfl rfl (Still.fieldAddrA (off := 0) rfl rfl Tryz.underlying34 rfl Tryz.sizeOf3 rfl) ?_
              refine RunG.still rfl rfl rfl rfl (Still.load (v := iv (fAt g u f).tet) rfl rfl Tryz.isAgg3 (fun _ hs => (hg.sym hs).tet (tAt_get huN) hf4)) ?_
              refine RunG.done ?_
              show RunL _ _ _ [_] _ _
              refine RunL.still rfl rfl rfl (Still.assign rfl rfl) ?_
              refine RunL.nil ?_
              refine Ends.then ?_
              refine RunC.seq ?_
              refine RunC.region ?_
              refine RunL.still rfl rfl rfl (Still.move rfl rfl) ?_
              refine RunL.still rfl rfl rfl (Still.geq rfl rfl rfl) ?_
              refine RunL.still rfl rfl rfl (Still.move rfl rfl) ?_
              refine RunL.split (t := 68) rfl (fun h68 => ?_) (fun h68 => ?_)
              · have h68 := of_decide_eq_true h68
                have hF := okG_glued hok huN hf4 (by omega)
                have hFl := hF.lo
                have hFh := hF.hi
                refine RunL.still rfl rfl rfl (Still.move rfl rfl) ?_
                refine RunL.still rfl rfl rfl (Still.move rfl rfl) ?_
                refine RunL.still rfl rfl rfl (Still.indexOwnI (m := (fAt g u f).tet.toNat) rfl rfl rfl Tryz.underlying36 Tryz.sizeOf3 (fun _ hs => hs.own (i := 0) rfl) (by omega) (by omega)) ?_
                refine RunL.still rfl rfl rfl (Still.load rfl rfl Tryz.isAgg3 (fun w hs => own_at (hs.own (i := 0) rfl) (ints_get (getD_get' (by omega))))) ?_
                refine RunL.still rfl rfl rfl (Still.lss rfl rfl rfl) ?_
                refine RunL.still rfl rfl rfl (Still.pickT rfl rfl rfl) ?_
                refine RunL.nil ?_
                refine Ends.then ?_
                refine RunC.cond rfl (fun h74 => ?_) (fun h74 => ?_)
                · have h74 := of_decide_eq_true h74
                  refine RunC.seq ?_
                  refine RunC.region ?_
                  refine RunL.still rfl rfl rfl (Still.move rfl rfl) ?_
                  refine RunL.still rfl rfl rfl (Still.move rfl rfl) ?_
                  refine RunL.still rfl rfl rfl (Still.move rfl rfl) ?_
                  refine RunL.still rfl rfl rfl (Still.indexOwnI (m := (fAt g u f).tet.toNat) rfl rfl rfl Tryz.underlying36 Tryz.sizeOf3 (fun _ hs => hs.own (i := 0) rfl) (by omega) (by omega)) ?_
                  refine RunL.does0 rfl rfl (Does.storeOwn1 (xs' := (ints ((pTo g (pAll g t).2 u s f).1.set (fAt g u f).tet.toNat (pAll g t).2))) rfl rfl rfl rfl (i := 0) rfl Tryz.sizeOf3 rfl (by simp; omega) (ints_set _ _ _)) (fun _ _ => ?_)
                  refine RunL.nil ?_
                  refine Ends.then ?_
                  refine RunC.region ?_
                  refine RunL.still rfl rfl rfl (Still.move rfl rfl) ?_
                  refine RunL.still rfl rfl rfl (Still.move rfl rfl) ?_
                  refine RunL.grows rfl rfl rfl (Grows.slice1 rfl rfl Tryz.underlying36 Tryz.sizeOf3 rfl Tryz.zeroValue3 (by decide)) (fun b81 _ => ?_)
                  refine RunL.does rfl rfl rfl (Does.appendTo (n' := ((pTo g (pAll g t).2 u s f).2.length + 1)) (xs' := (nints ((pTo g (pAll g t).2 u s f).2 ++ [(fAt g u f).tet.toNat]))) (news := [_]) rfl rfl rfl rfl (i := 2) rfl Tryz.underlying36 (by kernel_rfl : (_ : Option _) = some (some (.int .i64 0), 1, 8)) rfl rfl (fun _ hs => cells_nth (hs.at (i := 0) rfl) ⟨rfl, trivial⟩) rfl rfl (by omega) (by omega) (rfl) ((congrArg (fun z => _ ++ [iv z]) (by omega)).trans (nints_snoc _ _))) (fun v82 hv82 => ?_)
                  refine RunL.still rfl rfl rfl (Still.assign rfl rfl) ?_
                  refine RunL.nil ?_
                  refine Ends.block ?_
                  refine Ends.then ?_
                  refine RunC.region ?_
                  refine RunL.still rfl rfl rfl (Still.move rfl rfl) ?_
                  refine RunL.still rfl rfl rfl (Still.add rfl rfl rfl (fits64 (by omega) (by omega))) ?_
                  refine RunL.still rfl rfl rfl (Still.assign rfl rfl) ?_
                  refine RunL.nil ?_
                  have hgo : pTo g (pAll g t).2 u s (f + 1) = ((pTo g (pAll g t).2 u s f).1.set (fAt g u f).tet.toNat (pAll g t).2, (pTo g (pAll g t).2 u s f).2 ++ [(fAt g u f).tet.toNat]) := pFace_go (by omega) (by omega)
                  refine Ends.again (v82, f + 1) ?_ ?_ (Fr.Sub.app ?_ ?_) ?_
                  · show f + 1 ≤ 4; omega
                  · show 4 - (f + 1) < 4 - f; omega
                  · exact Fr.Sub.cons rfl (Fr.Sub.cons rfl (Fr.Sub.nil _))
                  · exact Fr.Sub.cons rfl (Fr.Sub.cons rfl (Fr.Sub.cons rfl (Fr.Sub.cons rfl (Fr.Sub.cons rfl (Fr.Sub.nil _)))))
                  · exact HSub.pick 1 (by rw [hgo]; rfl) (HSub.pick 1 (by rw [hgo]; simp only [List.length_append, List.length_singleton]; rfl) (HSub.pick 1 rfl (HSub.nil _)))
                · have h74 := of_decide_eq_false h74
                  refine RunC.skip ?_
                  refine Ends.block ?_
                  refine Ends.then ?_
                  refine RunC.region ?_
                  refine RunL.still rfl rfl rfl (Still.move rfl rfl) ?_
                  refine RunL.still rfl rfl rfl (Still.add rfl rfl rfl (fits64 (by omega) (by omega))) ?_
                  refine RunL.still rfl rfl rfl (Still.assign rfl rfl) ?_
                  refine RunL.nil ?_
                  have hno : pTo g (pAll g t).2 u s (f + 1) = pTo g (pAll g t).2 u s f := pFace_no (by omega)
                  refine Ends.again (v, f + 1) ?_ ?_ (Fr.Sub.app ?_ ?_) ?_
                  · show f + 1 ≤ 4; omega
                  · show 4 - (f + 1) < 4 - f; omega
                  · exact Fr.Sub.cons rfl (Fr.Sub.cons rfl (Fr.Sub.nil _))
                  · exact Fr.Sub.cons rfl (Fr.Sub.cons rfl (Fr.Sub.cons rfl (Fr.Sub.cons rfl (Fr.Sub.cons rfl (Fr.Sub.nil _)))))
                  · exact HSub.pick 0 (by rw [hno]; rfl) (HSub.pick 0 (by rw [hno]; rfl) (HSub.pick 0 rfl (HSub.nil _)))
              · have h68 := of_decide_eq_false h68
                refine RunL.off rfl rfl rfl ?_
                refine RunL.off rfl rfl rfl ?_
                refine RunL.off rfl rfl rfl ?_
                refine RunL.off rfl rfl rfl ?_
                refine RunL.off rfl rfl rfl ?_
                refine RunL.still rfl rfl rfl (Still.pickF rfl rfl rfl) ?_
                refine RunL.nil ?_
                refine Ends.then ?_
                refine RunC.cond_false rfl ?_
                refine RunC.skip ?_
                refine Ends.block ?_
                refine Ends.then ?_
                refine RunC.region ?_
                refine RunL.still rfl rfl rfl (Still.move rfl rfl) ?_
                refine RunL.still rfl rfl rfl (Still.add rfl rfl rfl (fits64 (by omega) (by omega))) ?_
                refine RunL.still rfl rfl rfl (Still.assign rfl rfl) ?_
                refine RunL.nil ?_
                have hno : pTo g (pAll g t).2 u s (f + 1) = pTo g (pAll g t).2 u s f := pFace_no (by omega)
                refine Ends.again (v, f + 1) ?_ ?_ (Fr.Sub.app ?_ ?_) ?_
                · show f + 1 ≤ 4; omega
                · show 4 - (f + 1) < 4 - f; omega
                · exact Fr.Sub.cons rfl (Fr.Sub.cons rfl (Fr.Sub.nil _))
                · exact Fr.Sub.cons rfl (Fr.Sub.cons rfl (Fr.Sub.cons rfl (Fr.Sub.cons rfl (Fr.Sub.cons rfl (Fr.Sub.nil _)))))
                · exact HSub.pick 0 (by rw [hno]; rfl) (HSub.pick 0 (by rw [hno]; rfl) (HSub.pick 0 rfl (HSub.nil _)))
            · have h52 := of_decide_eq_false h52
              obtain rfl : f = 4 := by omega
              refine RunC.exit ?_
              refine Ends.then_exit ?_
              refine Ends.then_exit ?_
              refine Ends.block_exit ?_
              refine Ends.block ?_
              refine Ends.then ?_
              refine RunC.region ?_
              refine RunL.still rfl rfl rfl (Still.move rfl rfl) ?_
              refine RunL.still rfl rfl rfl (Still.add rfl rfl rfl (fits64 (by omega) (by omega))) ?_
              refine RunL.still rfl rfl rfl (Still.assign rfl rfl) ?_
              refine RunL.nil ?_
              obtain ⟨k, rfl⟩ : ∃ m, k = m + 1 := ⟨k - 1, by have := (List.getElem?_eq_some_iff.1 hu).1; omega⟩
              refine Ends.again (v, pTo g (pAll g t).2 u s 4, i + 1, k) ?_ ?_ (Fr.Sub.app ?_ ?_) ?_
              · exact ⟨hP4, by rw [← hM, pBfs_step hu], by show i + 1 + k = _; omega⟩
              · exact Nat.lt_succ_self _
              · exact Fr.Sub.cons rfl (Fr.Sub.cons rfl (Fr.Sub.nil _))
              · exact Fr.Sub.cons rfl (Fr.Sub.cons rfl (Fr.Sub.cons rfl (Fr.Sub.cons rfl (Fr.Sub.nil _))))
              · exact HSub.pick 0 rfl (HSub.pick 0 rfl (HSub.pick 0 rfl (HSub.nil _)))
          · have h48 := of_decide_eq_false h48
            refine RunC.exit ?_
            refine Ends.then_exit ?_
            refine Ends.then_exit ?_
            refine Ends.block_exit ?_
            refine Ends.then ?_
            refine RunC.region ?_
            refine RunL.still rfl rfl rfl (Still.move rfl rfl) ?_
            refine RunL.still rfl rfl rfl (Still.add rfl rfl rfl (fits64 (by omega) (by omega))) ?_
            refine RunL.still rfl rfl rfl (Still.assign rfl rfl) ?_
            refine RunL.nil ?_
            refine Ends.block ?_
            refine Ends.then ?_
            refine RunC.region ?_
            refine RunL.still rfl rfl rfl (Still.move rfl rfl) ?_
            refine RunL.still rfl rfl rfl (Still.add rfl rfl rfl (fits64 (by omega) (by omega))) ?_
            refine RunL.still rfl rfl rfl (Still.assign rfl rfl) ?_
            refine RunL.nil ?_
            have hfin : pAll g (t + 1) = (s.1, (pAll g t).2 + 1) := by rw [pAll_new hge, ← hM, pBfs_done (by omega)]
            refine Ends.again (t + 1) ?_ ?_ (Fr.Sub.app ?_ ?_) ?_
            · show _; omega
            · show _ < _; omega
            · exact Fr.Sub.cons (by rw [hfin]; rfl) (Fr.Sub.cons rfl (Fr.Sub.nil _))
            · exact Fr.Sub.cons rfl (Fr.Sub.cons rfl (Fr.Sub.nil _))
            · exact HSub.pick 0 (by rw [hfin]; rfl) (HSub.pick 1 rfl (HSub.nil _))
      · have h31 := of_decide_eq_false h31
        obtain rfl : t = g.length := by omega
        refine RunC.exit ?_
        refine Ends.then_exit ?_
        refine Ends.then_exit ?_
        refine Ends.block_exit ?_
        refine Ends.then ?_
        refine RunC.seq ?_
        refine RunC.region ?_
        refine RunL.still rfl rfl rfl (Still.move rfl rfl) ?_
        refine RunL.still rfl rfl rfl (Still.assign rfl rfl) ?_
        refine RunL.still rfl rfl rfl (Still.assign rfl rfl) ?_
        refine RunL.nil ?_
        refine Ends.then ?_
        refine RunC.ret ?_
        refine Ends.leave (.inl rfl) (fun _ _ ok => results2 Tryz.results30 (Holds.tmp rfl) (Holds.tmp rfl) ok) (fun w1 hs => ?_)
        exact Ret.intro b18 trivial rfl (HSub.pick 0 rfl (HSub.nil _)) hs

end Go.Proofs
