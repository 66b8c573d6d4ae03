/- What the rows say of the library's variables; a wrap that keeps the world's shape. -/
import Derived.Test.YtbnfcbmpgjmhmaaDoorM2
import Derived.Test.YtbnfcbmpgjmhmaaDoorRows
import Derived.Stop.LaidErr
import Derived.Stop.Joined
import Derived.LaidMore
import Derived.Lib.LaidTab
import Derived.MakeChecks
import Derived.Shelf.Vars
import Derived.ChangeMaps5
import Derived.HandedShaped
import Derived.Test.YtbnfcbmpgjmhmaaDoorM1
import Derived.Lib.SlTrimSet
import Derived.Test.YtbnfcbmpgjmhmaaDoorM0
import Derived.Test.YtbnfcbmpgjmhmaaDoorProg
import Derived.KernelRfl
import Derived.Carry
import Derived.Lay
namespace Go.Proofs
open Go Go.V Go.ChangeShapes Go.WideShapes
set_option maxRecDepth 100000
theorem z_gES : Tryd.prog.globalNamed "strconv.ErrSyntax" = some 2 := by kernel_rfl
theorem z_gER : Tryd.prog.globalNamed "strconv.ErrRange" = some 3 := by kernel_rfl
theorem z_gPT : Tryd.prog.globalNamed "internal/strconv.uint64pow10" = some 0 := by kernel_rfl
theorem z_gEST : (Tryd.prog.globals[2]?).map (·.type) = some 80 := by kernel_rfl
theorem z_gERT : (Tryd.prog.globals[3]?).map (·.type) = some 80 := by kernel_rfl
theorem z_gPTT : (Tryd.prog.globals[0]?).map (·.type) = some 121 := by kernel_rfl
theorem z_star : "*" ++ "errors.errorString" = "*errors.errorString" := by decide
theorem z_row (u : TypeId) (h : Tryd.prog.typeName? 3 u = some "*errors.errorString") : u = 142 :=
  typeName_ptr_named (nm := "errors.errorString") (by rw [z_star]; kernel_rfl) (by kernel_rfl) (by decide) u (by rw [z_star]; exact h)
theorem z_c144 : Tryd.prog.cellsOf 144 = 1 := by kernel_rfl
theorem z_c9 : Tryd.prog.cellsOf 9 = 1 := by kernel_rfl
theorem z_c103 : Tryd.prog.cellsOf 103 = 1 := by kernel_rfl
theorem z_c121 : Tryd.prog.cellsOf 121 = 20 := by kernel_rfl
abbrev laidT : List (String × DataW Unit) := YtbnfcbmpgjmhmaaDoor.Rows.gluePermsRow.laid
theorem laidT_plain : (laidT.all fun x => x.2.handleName?.isNone) = true := by kernel_rfl
theorem env_of_laid {W : World} (h : laidMetH Tryd.prog laidT W) (hsh : W.ShapedOpen Tryd.prog) : Env W := by
  rw [MakeChecks.laidMetH_plain _ _ _ laidT_plain] at h
  have h2 := h.tail.tail
  have h5 := h2.tail.tail.tail
  have h4 := h2.tail.tail
  have tab : Lib.TabIs Tryd.prog W "internal/strconv.uint64pow10" .u64 Lib.pow10Tab := Lib.tabIs_of_head z_gPT z_gPTT Tryd.underlying121 Tryd.underlying103 z_c103 z_c121 h2
  obtain ⟨a0, s0, e0, -, -, -⟩ := laid_sentinel h5 z_gES z_gEST Tryd.underlying80 z_row Tryd.underlying142 Tryd.underlying144 rfl rfl Tryd.underlying9 z_c144 z_c9
  obtain ⟨a1, s1, e1, -, -, -⟩ := laid_sentinel h4 z_gER z_gERT Tryd.underlying80 z_row Tryd.underlying142 Tryd.underlying144 rfl rfl Tryd.underlying9 z_c144 z_c9
  refine ⟨tab, ?_, ⟨_, _, e0⟩, ⟨_, _, e1⟩⟩
  exact cell_of_shapedOpen_int (zero := #[.int .i64 0]) (t := 3) hsh (of_decide_eq_true (by kernel_rfl)) (by kernel_rfl) rfl (by kernel_rfl) (by kernel_rfl) Tryd.underlying3
section
variable {H : Type} {enc : TypeId × Value → H}
/-- The wrap with a condition on the world, the world's shape kept. -/
theorem wrap_and_shaped {a : Assume} {C : Checked} {os : Os} {f : FuncId} {fn : Func} {s : ChangeSpec} {conds : List PathCond} {apart fresh handsOn again : Bool} {X : World → Array Value → Prop}
    (hX : ∀ (w w' : World) (args : Array Value), w.heap = w'.heap → X w args → X w' args)
    (own : ownKnob C.prog.godebug = none) (started : os.Started) (noInit : C.prog.inits.idxOf? f = none) (hfn : C.prog.funcs[f]? = some fn)
    (witness : ∃ (w : World) (tape : Tape) (i : Input), w.os = os ∧ (w.forCall tape i).Shaped C.prog ∧ i.vars = [] ∧ Input.okWide C.prog (w.forCall tape i) .any w.heap.size f i ∧
      ((s.pre enc C.prog fn conds apart (w.forCall tape i).memory i.args ∧ X (w.forCall tape i).memory i.args) ∧ sizedMet enc C.prog fn (OpenSpec.ofChange s) apart (w.forCall tape i).memory i.args) ∧ a.holds C.prog (lone (Frame.enter C.prog f i.args .normal) [] (w.forCall tape i)))
    (contract : ∀ (W : World) (base : Nat) (args : Array Value) (ds gs : List (DataW H)) (before : List MemPlace),
      (∀ (j : Nat) t v, fn.params[j]? = some t → args[j]? = some v → Value.okWide C.prog W .any base t v) →
      DataW.Whole enc C.prog fn.params.toList s.vars apart W args.toList ds gs before →
      X W args → W.ShapedOpen C.prog →
      Calls C.prog f args W fun e W' => ∃ v, e = .returned v ∧ s.post enc C.prog fn apart fresh handsOn again W args v W') :
    ReturnsInHanded a C os f .any (fun w args => (s.pre enc C.prog fn conds apart w args ∧ X w args) ∧ sizedMet enc C.prog fn (OpenSpec.ofChange s) apart w args) (s.post enc C.prog fn apart fresh handsOn again) := by
  refine returnsInHanded_of_calls own started noInit witness ?_
  intro w tape i _ hsh _ hok hpre hholds
  obtain ⟨_, _, _, fn', hfn', _, _, _, _, hval⟩ := hok
  have e : fn' = fn := Option.some.inj (hfn'.symm.trans hfn)
  subst e
  obtain ⟨⟨⟨ds, gs, before, hw, hc⟩, hx⟩, hz⟩ := hpre
  have hw' := DataW.Whole.of_heap (w' := w.forCall tape i) (by rfl) hw
  refine (contract (w.forCall tape i) w.heap.size i.args ds gs before hval hw' (hX _ _ _ (by rfl) hx) hsh).mono fun e W' ⟨v, he, hp⟩ => ?_
  subst he
  exact ChangeSpec.post_blind hp
end
end Go.Proofs
/- What is read of the text of the gluing with one tetrahedron. -/
namespace Go.V
open Go
def trimL (s : ByteArray) : ByteArray := ⟨(Lib.trimLeftB s.data.toList 32).toArray⟩
def wW (s : ByteArray) : ByteArray := ⟨(Lib.cut (trimL s).data.toList spS.data.toList).1.toArray⟩
def wR (s : ByteArray) : ByteArray := ⟨(Lib.cut (trimL s).data.toList spS.data.toList).2.1.toArray⟩
def digS : ByteArray := ⟨#[48, 49, 50, 51, 52, 53, 54, 55, 56, 57]⟩
def digT (s : ByteArray) : ByteArray := ⟨(Lib.trimLeftS s.data.toList digS.data.toList).toArray⟩
def digB (s : ByteArray) : ByteArray := ⟨(Lib.trimS s.data.toList digS.data.toList).toArray⟩
/-- The next word is there. -/
structure WStep (s : ByteArray) : Prop where
  size : (trimL s).size ≤ 2000
  ne : ¬ wW s = ⟨#[]⟩
/-- A glued face is read. -/
structure FStep (s : ByteArray) (x : Fc) : Prop where
  w : WStep s
  w2 : WStep (wR s)
  dash : ¬ wW s = dashS
  dig : digT (wW s) = ⟨#[]⟩
  one : (wW s).size = 1
  num : Num (wW s) x.tet
  four : (wW (wR s)).size = 4
  digs : digB (wW (wR s)) = ⟨#[]⟩
  at' : ∀ i, i < 4 → x.p.at i = (byteAt (wW (wR s)) i : Int) - 48
  lo : ∀ i, i < 4 → 48 ≤ byteAt (wW (wR s)) i
def fTo (x : Fc) (i : Nat) : Array Value := #[iv x.tet, iv (if 0 < i then x.p.a0 else 0), iv (if 1 < i then x.p.a1 else 0), iv (if 2 < i then x.p.a2 else 0), iv (if 3 < i then x.p.a3 else 0)]
theorem fTo_set (x : Fc) {i : Nat} (hi : i < 4) {v : Int} (e : v = x.p.at i) : (fTo x i).setIfInBounds (1 + i * 1) (iv v) = fTo x (i + 1) := by
  subst e
  match i, hi with
  | 0, _ => rfl
  | 1, _ => rfl
  | 2, _ => rfl
  | 3, _ => rfl
def tOne : Tt := ⟨⟨0, ⟨1, 0, 2, 3⟩⟩, ⟨0, ⟨1, 0, 2, 3⟩⟩, ⟨0, ⟨0, 1, 3, 2⟩⟩, ⟨0, ⟨0, 1, 3, 2⟩⟩⟩
def gOne : Glu := [tOne]
def txtOne : ByteArray := ⟨#[49, 32, 48, 32, 49, 48, 50, 51, 32, 48, 32, 49, 48, 50, 51, 32, 48, 32, 48, 49, 51, 50, 32, 48, 32, 48, 49, 51, 50]⟩
/-- What is left ahead of a face. -/
def restAt : Nat → ByteArray
  | 0 => wR txtOne
  | k + 1 => wR (wR (restAt k))
theorem one_w : WStep txtOne := ⟨by decide +kernel, by decide +kernel⟩
theorem one_num : Num (wW txtOne) 1 := ⟨by decide, by decide, by decide +kernel⟩
theorem one_face {f : Nat} (hf : f < 4) : FStep (restAt f) (tOne.at f) := by
  match f, hf with
  | 0, _ => exact ⟨⟨by decide +kernel, by decide +kernel⟩, ⟨by decide +kernel, by decide +kernel⟩, by decide +kernel, by decide +kernel, by decide +kernel, ⟨by decide, by decide, by decide +kernel⟩, by decide +kernel, by decide +kernel, by decide +kernel, by decide +kernel⟩
  | 1, _ => exact ⟨⟨by decide +kernel, by decide +kernel⟩, ⟨by decide +kernel, by decide +kernel⟩, by decide +kernel, by decide +kernel, by decide +kernel, ⟨by decide, by decide, by decide +kernel⟩, by decide +kernel, by decide +kernel, by decide +kernel, by decide +kernel⟩
  | 2, _ => exact ⟨⟨by decide +kernel, by decide +kernel⟩, ⟨by decide +kernel, by decide +kernel⟩, by decide +kernel, by decide +kernel, by decide +kernel, ⟨by decide, by decide, by decide +kernel⟩, by decide +kernel, by decide +kernel, by decide +kernel, by decide +kernel⟩
  | 3, _ => exact ⟨⟨by decide +kernel, by decide +kernel⟩, ⟨by decide +kernel, by decide +kernel⟩, by decide +kernel, by decide +kernel, by decide +kernel, ⟨by decide, by decide, by decide +kernel⟩, by decide +kernel, by decide +kernel, by decide +kernel, by decide +kernel⟩
theorem one_end : (⟨(Lib.trimB (restAt 4).data.toList 32).toArray⟩ : ByteArray) = ⟨#[]⟩ := by decide +kernel
theorem one_end_size : (restAt 4).size ≤ 2000 := by decide +kernel
theorem one_text : textG gOne = txtOne := by decide +kernel
theorem one_ok : okG gOne = true := by decide +kernel
/-- The row that is filled. -/
def rowTo : Nat → Tt
  | 0 => ⟨⟨0, ⟨0, 0, 0, 0⟩⟩, ⟨0, ⟨0, 0, 0, 0⟩⟩, ⟨0, ⟨0, 0, 0, 0⟩⟩, ⟨0, ⟨0, 0, 0, 0⟩⟩⟩
  | f + 1 => (rowTo f).setF f (tOne.at f)
theorem rowTo_set {f : Nat} (hf : f < 4) : putAll (ttA (rowTo f)) (0 + f * 5) [iv (tOne.at f).tet, iv (tOne.at f).p.a0, iv (tOne.at f).p.a1, iv (tOne.at f).p.a2, iv (tOne.at f).p.a3] = ttA (rowTo (f + 1)) := ttA_fc _ hf _
def tFree : Tt := ⟨noF, noF, noF, noF⟩
def gFree : Glu := [tFree]
def gBad : Glu := [⟨⟨0, idP⟩, noF, noF, noF⟩]
theorem free_ok : okG gFree = true := by decide +kernel
theorem bad_no : okG gBad = false := by decide +kernel
def txtTwo : ByteArray := ⟨#[50, 32, 48, 32, 49, 48, 50, 51, 32, 48, 32, 49, 48, 50, 51, 32, 48, 32, 48, 49, 51, 50, 32, 48, 32, 48, 49, 51, 50, 32, 49, 32, 49, 48, 50, 51, 32, 49, 32, 49, 48, 50, 51, 32, 49, 32, 48, 49, 51, 50, 32, 49, 32, 48, 49, 51, 50]⟩
def txtDbl : ByteArray := ⟨#[50, 32, 49, 32, 48, 49, 50, 51, 32, 49, 32, 48, 49, 50, 51, 32, 49, 32, 48, 49, 50, 51, 32, 49, 32, 48, 49, 50, 51, 32, 48, 32, 48, 49, 50, 51, 32, 48, 32, 48, 49, 50, 51, 32, 48, 32, 48, 49, 50, 51, 32, 48, 32, 48, 49, 50, 51]⟩
theorem two_ok : okG (twoG gOne) = true := by decide +kernel
theorem dbl_ok : okG (dblG gFree) = true := by decide +kernel
theorem two_text : textG (twoG gOne) = txtTwo := by decide +kernel
theorem dbl_text : textG (dblG gFree) = txtDbl := by decide +kernel
theorem one_ori : oriG gOne = some [1] := by decide +kernel
end Go.V
/- Rules for values put together: more shapes. -/
namespace Go.V
open Go
section builds
variable {C : Cx} {F : Fr} {L : List HL} {o : Oper}
theorem Still.build_5_5_5_5 {t : TypeId} {i0 i1 i2 i3 : Nat} {a0 a1 a2 a3 : Operand} {x0_0 x0_1 x0_2 x0_3 x0_4 x1_0 x1_1 x1_2 x1_3 x1_4 x2_0 x2_1 x2_2 x2_3 x2_4 x3_0 x3_1 x3_2 x3_3 x3_4 : Value} (g : Value → Value → Value → Value → Value → Value → Value → Value → Value → Value → Value → Value → Value → Value → Value → Value → Value → Value → Value → Value → Value) (ho : o.op = .build t #[(i0, a0), (i1, a1), (i2, a2), (i3, a3)]) (h0 : F.ev a0 = some (.agg #[x0_0, x0_1, x0_2, x0_3, x0_4])) (h1 : F.ev a1 = some (.agg #[x1_0, x1_1, x1_2, x1_3, x1_4])) (h2 : F.ev a2 = some (.agg #[x2_0, x2_1, x2_2, x2_3, x2_4])) (h3 : F.ev a3 = some (.agg #[x3_0, x3_1, x3_2, x3_3, x3_4])) (hr : ∀ w, (Instr.build t #[(i0, (.agg #[x0_0, x0_1, x0_2, x0_3, x0_4])), (i1, (.agg #[x1_0, x1_1, x1_2, x1_3, x1_4])), (i2, (.agg #[x2_0, x2_1, x2_2, x2_3, x2_4])), (i3, (.agg #[x3_0, x3_1, x3_2, x3_3, x3_4]))]).run C.P w = .ok (g x0_0 x0_1 x0_2 x0_3 x0_4 x1_0 x1_1 x1_2 x1_3 x1_4 x2_0 x2_1 x2_2 x2_3 x2_4 x3_0 x3_1 x3_2 x3_3 x3_4) w) : Still C o F L (g x0_0 x0_1 x0_2 x0_3 x0_4 x1_0 x1_1 x1_2 x1_3 x1_4 x2_0 x2_1 x2_2 x2_3 x2_4 x3_0 x3_1 x3_2 x3_3 x3_4) :=
  Still.build (vs := #[(i0, (.agg #[x0_0, x0_1, x0_2, x0_3, x0_4])), (i1, (.agg #[x1_0, x1_1, x1_2, x1_3, x1_4])), (i2, (.agg #[x2_0, x2_1, x2_2, x2_3, x2_4])), (i3, (.agg #[x3_0, x3_1, x3_2, x3_3, x3_4]))]) ho (by simp only [List.map_cons, List.map_nil, h0, h1, h2, h3]) hr
end builds
end Go.V
/- The example with one tetrahedron: made, and read from its text. -/
namespace Go.Proofs
open Go Go.V
set_option maxRecDepth 20000
theorem in_iface20 : Tryd.prog.underlying 20 = some (.interface (Tryd.prog.methodsAt 20)) := Tryd.underlying20.trans (by kernel_rfl)
theorem in_iface108 : Tryd.prog.underlying 80 = some (.interface (Tryd.prog.methodsAt 80)) := Tryd.underlying80.trans (by kernel_rfl)

theorem lw_One (w : World) : Gives Tryd.prog 14 #[] w Nil (fun _ : Nat => True) (fun b => gluV (some ⟨b, 0, none⟩) 1 gOne) (fun b => [ownG (some ⟨b, 0, none⟩, 1) gOne]) := by
  refine fn_of_run (S := Nil) (args := []) (n := 16) (L := []) Tryd.func14 rfl Tryd.ntmps14 (Nat.le_of_ble_eq_true rfl) (Sym.nil _ _) ?_
  change RunC _ _ _ [] _
  refine RunC.seq ?_
  refine RunC.region ?_
  refine RunL.grows rfl rfl rfl (Grows.alloc rfl Tryd.zeroValue33) (fun b0 _ => ?_)
  refine RunL.nil ?_
  refine Ends.then ?_
  refine RunC.seq ?_
  refine RunC.region ?_
  refine RunL.still rfl rfl rfl (Still.build_1_1_1_1 (fun x0_0 x1_0 x2_0 x3_0 => .agg #[x0_0, x1_0, x2_0, x3_0]) rfl rfl rfl rfl rfl (fun _ => by kernel_rfl)) ?_
  refine RunL.grows rfl rfl rfl (Grows.alloc rfl Tryd.zeroValue23) (fun b1 _ => ?_)
  refine RunL.does0 rfl rfl (Does.store rfl rfl rfl (i := 0) rfl Tryd.sizeOf23 rfl (rfl) rfl) (fun _ _ => ?_)
  refine RunL.conv (fun _ hs => hs.re 0 rfl (show _ = HL.obj b1 (.cells #[iv 1, iv 0, iv 2, iv 3] 23 (0, 0)) from rfl)) ?_
  refine RunL.nil ?_
  refine Ends.then ?_
  refine RunC.seq ?_
  refine RunC.region ?_
  refine RunL.still rfl rfl rfl (Still.build_1_1_1_1 (fun x0_0 x1_0 x2_0 x3_0 => .agg #[x0_0, x1_0, x2_0, x3_0]) rfl rfl rfl rfl rfl (fun _ => by kernel_rfl)) ?_
  refine RunL.grows rfl rfl rfl (Grows.alloc rfl Tryd.zeroValue23) (fun b2 _ => ?_)
  refine RunL.does0 rfl rfl (Does.store rfl rfl rfl (i := 0) rfl Tryd.sizeOf23 rfl (rfl) rfl) (fun _ _ => ?_)
  refine RunL.conv (fun _ hs => hs.re 0 rfl (show _ = HL.obj b2 (.cells #[iv 0, iv 1, iv 3, iv 2] 23 (0, 0)) from rfl)) ?_
  refine RunL.nil ?_
  refine Ends.then ?_
  refine RunC.seq ?_
  refine RunC.region ?_
  refine RunL.still rfl rfl rfl (Still.loads rfl rfl Tryd.isAgg23 Tryd.sizeOf23 (vs := [_, _, _, _]) rfl (fun _ hs => cells_nth (hs.at (i := 1) rfl) ⟨rfl, ⟨rfl, ⟨rfl, ⟨rfl, trivial⟩⟩⟩⟩)) ?_
  refine RunL.still rfl rfl rfl (Still.build_1_4 (fun x0_0 x1_0 x1_1 x1_2 x1_3 => .agg #[x0_0, x1_0, x1_1, x1_2, x1_3]) rfl rfl rfl (fun _ => by kernel_rfl)) ?_
  refine RunL.still rfl rfl rfl (Still.loads rfl rfl Tryd.isAgg23 Tryd.sizeOf23 (vs := [_, _, _, _]) rfl (fun _ hs => cells_nth (hs.at (i := 1) rfl) ⟨rfl, ⟨rfl, ⟨rfl, ⟨rfl, trivial⟩⟩⟩⟩)) ?_
  refine RunL.still rfl rfl rfl (Still.build_1_4 (fun x0_0 x1_0 x1_1 x1_2 x1_3 => .agg #[x0_0, x1_0, x1_1, x1_2, x1_3]) rfl rfl rfl (fun _ => by kernel_rfl)) ?_
  refine RunL.still rfl rfl rfl (Still.loads rfl rfl Tryd.isAgg23 Tryd.sizeOf23 (vs := [_, _, _, _]) rfl (fun _ hs => cells_nth (hs.at (i := 0) rfl) ⟨rfl, ⟨rfl, ⟨rfl, ⟨rfl, trivial⟩⟩⟩⟩)) ?_
  refine RunL.still rfl rfl rfl (Still.build_1_4 (fun x0_0 x1_0 x1_1 x1_2 x1_3 => .agg #[x0_0, x1_0, x1_1, x1_2, x1_3]) rfl rfl rfl (fun _ => by kernel_rfl)) ?_
  refine RunL.still rfl rfl rfl (Still.loads rfl rfl Tryd.isAgg23 Tryd.sizeOf23 (vs := [_, _, _, _]) rfl (fun _ hs => cells_nth (hs.at (i := 0) rfl) ⟨rfl, ⟨rfl, ⟨rfl, ⟨rfl, trivial⟩⟩⟩⟩)) ?_
  refine RunL.still rfl rfl rfl (Still.build_1_4 (fun x0_0 x1_0 x1_1 x1_2 x1_3 => .agg #[x0_0, x1_0, x1_1, x1_2, x1_3]) rfl rfl rfl (fun _ => by kernel_rfl)) ?_
  refine RunL.still rfl rfl rfl (Still.build_5_5_5_5 (fun x0_0 x0_1 x0_2 x0_3 x0_4 x1_0 x1_1 x1_2 x1_3 x1_4 x2_0 x2_1 x2_2 x2_3 x2_4 x3_0 x3_1 x3_2 x3_3 x3_4 => .agg #[x0_0, x0_1, x0_2, x0_3, x0_4, x1_0, x1_1, x1_2, x1_3, x1_4, x2_0, x2_1, x2_2, x2_3, x2_4, x3_0, x3_1, x3_2, x3_3, x3_4]) rfl rfl rfl rfl rfl (fun _ => by kernel_rfl)) ?_
  refine RunL.grows rfl rfl rfl (Grows.slice1 rfl rfl Tryd.underlying31 Tryd.sizeOf37 rfl Tryd.zeroValue37 (by decide)) (fun b14 _ => ?_)
  refine RunL.conv (fun _ hs => Sym.obj_own (k := 20) (n := 1) hs rfl (by omega)) ?_
  refine RunL.still rfl rfl rfl (Still.build_1 (fun x0_0 => .agg #[x0_0]) rfl rfl (fun _ => by kernel_rfl)) ?_
  refine RunL.does0 rfl rfl (Does.store rfl rfl rfl (i := 3) rfl Tryd.sizeOf33 rfl (rfl) rfl) (fun _ _ => ?_)
  refine RunL.nil ?_
  refine Ends.then ?_
  refine RunC.ret ?_
  refine Ends.leave (.inl rfl) (fun _ _ ok => results1 Tryd.results14 (Holds.cell rfl (fun _ hs => load_cells (vs := [_]) Tryd.isAgg33 Tryd.sizeOf33 rfl (cells_nth (hs.at (i := 3) rfl) ⟨rfl, trivial⟩))) ok) (fun w1 hs => ?_)
  exact Ret.intro b14 trivial rfl (HSub.pick 0 rfl (HSub.nil _)) hs

theorem gl_word (b : Nat) (s : ByteArray) (w : World) (hr : (HL.obj b (.cells #[.string s] 67 (0, 0))).holds w) (hb : b < w.heap.size) {w00 : World} (he : Env w00) (hO : Old Nil w00 w) (hf0 : w00.heap.size ≤ b) (hw : WStep s) : Gives Tryd.prog 33 #[ptrV b] w (fun c => c = b) (fun _ : Unit => True) (fun _ => .string (wW s)) (fun _ => [HL.obj b (.cells #[.string (wR s)] 67 (0, 0))]) := by
  refine fn_of_run (S := (fun c => c = b)) (args := [ptrV b]) (n := 32) (L := [HL.obj b (.cells #[.string s] 67 (0, 0))]) Tryd.func33 rfl Tryd.ntmps33 (Nat.le_of_ble_eq_true rfl) (Sym.own1 hr (fun c hc => by have e : c = b := hc; omega)) ?_
  change RunC _ _ _ [(0, _)] _
  refine RunC.seq ?_
  refine RunC.region ?_
  refine RunL.still rfl rfl rfl (Still.assign rfl rfl) ?_
  refine RunL.nil ?_
  refine Ends.then ?_
  refine RunC.seq ?_
  refine RunC.region ?_
  refine RunL.still rfl rfl rfl (Still.move rfl rfl) ?_
  refine RunL.still rfl rfl rfl (Still.move rfl rfl) ?_
  refine RunL.still rfl rfl rfl (Still.nilCheck rfl rfl) ?_
  refine RunL.still rfl rfl rfl (Still.fieldAddrL (off := 0) (off' := 0) rfl rfl Tryd.underlying65 rfl Tryd.sizeOf9 rfl) ?_
  refine RunL.still rfl rfl rfl (Still.load rfl rfl Tryd.isAgg9 (fun _ hs => cell_nth (hs.at (i := 0) rfl) rfl)) ?_
  refine RunL.grows rfl rfl rfl (Grows.call (vs := #[_, _]) rfl rfl Tryd.call45 (fun w hs => z_TrimLeft1 s w)) (fun _ _ => ?_)
  refine RunL.still rfl rfl rfl (Still.nilCheck rfl rfl) ?_
  refine RunL.still rfl rfl rfl (Still.fieldAddrL (off := 0) (off' := 0) rfl rfl Tryd.underlying65 rfl Tryd.sizeOf9 rfl) ?_
  refine RunL.does0 rfl rfl (Does.store1 rfl rfl rfl (i := 0) rfl Tryd.sizeOf9 (rfl) (rfl)) (fun _ _ => ?_)
  refine RunL.nil ?_
  refine Ends.then ?_
  refine RunC.seq ?_
  refine RunC.region ?_
  refine RunL.still rfl rfl rfl (Still.move rfl rfl) ?_
  refine RunL.still rfl rfl rfl (Still.nilCheck rfl rfl) ?_
  refine RunL.still rfl rfl rfl (Still.fieldAddrL (off := 0) (off' := 0) rfl rfl Tryd.underlying65 rfl Tryd.sizeOf9 rfl) ?_
  refine RunL.still rfl rfl rfl (Still.load rfl rfl Tryd.isAgg9 (fun _ hs => cell_nth (hs.at (i := 0) rfl) rfl)) ?_
  refine RunL.grows rfl rfl rfl (Grows.call (vs := #[_, _]) rfl rfl Tryd.call46 (fun w hs => z_Cut (trimL s) spS w (he.old (hs.outer hO (fun c hc => .inl (by have e : c = b := hc; omega)))) (by have := hw.size; omega))) (fun _ _ => ?_)
  refine RunL.still rfl rfl rfl (Still.move rfl rfl) ?_
  refine RunL.still rfl rfl rfl (Still.extractN rfl rfl rfl) ?_
  refine RunL.still rfl rfl rfl (Still.extractN rfl rfl rfl) ?_
  refine RunL.still rfl rfl rfl (Still.extractN rfl rfl rfl) ?_
  refine RunL.still rfl rfl rfl (Still.assign rfl rfl) ?_
  refine RunL.still rfl rfl rfl (Still.assign rfl rfl) ?_
  refine RunL.still rfl rfl rfl (Still.assign rfl rfl) ?_
  refine RunL.nil ?_
  refine Ends.then ?_
  refine RunC.seq ?_
  refine RunC.seq ?_
  refine RunC.region ?_
  refine RunL.still rfl rfl rfl (Still.move rfl rfl) ?_
  refine RunL.still rfl rfl rfl (Still.eqlStrD rfl rfl rfl) ?_
  refine RunL.nil ?_
  refine Ends.then ?_
  refine RunC.cond rfl (fun h24 => ?_) (fun h24 => ?_)
  · have h24 := of_decide_eq_true h24
    exact absurd h24 hw.ne
  · have h24 := of_decide_eq_false h24
    refine RunC.skip ?_
    refine Ends.then ?_
    refine RunC.seq ?_
    refine RunC.region ?_
    refine RunL.still rfl rfl rfl (Still.move rfl rfl) ?_
    refine RunL.still rfl rfl rfl (Still.move rfl rfl) ?_
    refine RunL.still rfl rfl rfl (Still.nilCheck rfl rfl) ?_
    refine RunL.still rfl rfl rfl (Still.fieldAddrL (off := 0) (off' := 0) rfl rfl Tryd.underlying65 rfl Tryd.sizeOf9 rfl) ?_
    refine RunL.does0 rfl rfl (Does.store1 rfl rfl rfl (i := 0) rfl Tryd.sizeOf9 (rfl) (rfl)) (fun _ _ => ?_)
    refine RunL.nil ?_
    refine Ends.then ?_
    refine RunC.seq ?_
    refine RunC.region ?_
    refine RunL.still rfl rfl rfl (Still.move rfl rfl) ?_
    refine RunL.still rfl rfl rfl (Still.assign rfl rfl) ?_
    refine RunL.nil ?_
    refine Ends.then ?_
    refine RunC.ret ?_
    refine Ends.leave (.inl rfl) (fun _ _ ok => results1 Tryd.results33 (Holds.tmp rfl) ok) (fun w1 hs => ?_)
    exact Ret.intro () trivial rfl (HSub.pick 0 rfl (HSub.nil _)) hs

theorem gl_number (b : Nat) (s : ByteArray) (v most : Int) (w : World) (he : Env w) (hv : Num s v) (hm : v ≤ most) : Gives Tryd.prog 32 #[ptrV b, .string s, iv most] w Nil (fun _ : Unit => True) (fun _ => iv v) (fun _ => []) := by
  have hz := hv.size
  refine fn_of_run (S := Nil) (args := [ptrV b, .string s, iv most]) (n := 34) (L := []) Tryd.func32 rfl Tryd.ntmps32 (Nat.le_of_ble_eq_true rfl) (Sym.nil _ _) ?_
  change RunC _ _ _ [(0, _), (1, _), (2, _)] _
  refine RunC.seq ?_
  refine RunC.region ?_
  refine RunL.still rfl rfl rfl (Still.assign rfl rfl) ?_
  refine RunL.nil ?_
  refine Ends.then ?_
  refine RunC.seq ?_
  refine RunC.region ?_
  refine RunL.still rfl rfl rfl (Still.move rfl rfl) ?_
  refine RunL.grows rfl rfl rfl (Grows.call (vs := #[_]) rfl rfl Tryd.call44 (fun w hs => z_Atoi s v w (by omega) hv.atoi)) (fun _ _ => ?_)
  refine RunL.still rfl rfl rfl (Still.move rfl rfl) ?_
  refine RunL.still rfl rfl rfl (Still.extractN rfl rfl rfl) ?_
  refine RunL.still rfl rfl rfl (Still.extractN rfl rfl rfl) ?_
  refine RunL.still rfl rfl rfl (Still.assign rfl rfl) ?_
  refine RunL.still rfl rfl rfl (Still.assign rfl rfl) ?_
  refine RunL.nil ?_
  refine Ends.then ?_
  refine RunC.seq ?_
  refine RunC.seq ?_
  refine RunC.region ?_
  refine RunL.still rfl rfl rfl (Still.move rfl rfl) ?_
  refine RunL.still rfl rfl rfl (Still.neqNilN rfl rfl in_iface108) ?_
  refine RunL.still rfl rfl rfl (Still.move rfl rfl) ?_
  refine RunL.still rfl rfl rfl (Still.move rfl rfl) ?_
  refine RunL.grows rfl rfl rfl (Grows.call (vs := #[_]) rfl rfl Tryd.call26 (fun w hs => z_ItoaP v w (he.sym hs) hv.1 (by have := hv.2.1; omega))) (fun _ _ => ?_)
  refine RunL.still rfl rfl rfl (Still.move rfl rfl) ?_
  refine RunL.still rfl rfl rfl (Still.neqStrD rfl rfl rfl) ?_
  refine RunL.still rfl rfl rfl (Still.pickF rfl rfl rfl) ?_
  refine RunL.still rfl rfl rfl (Still.move rfl rfl) ?_
  refine RunL.split (t := 22) rfl (fun h22 => ?_) (fun h22 => ?_)
  · have h22 := of_decide_eq_true h22
    exact absurd hv.2.2.symm h22
  · have h22 := of_decide_eq_false h22
    refine RunL.still rfl rfl rfl (Still.move rfl rfl) ?_
    refine RunL.still rfl rfl rfl (Still.lss rfl rfl rfl) ?_
    refine RunL.still rfl rfl rfl (Still.pickF rfl rfl rfl) ?_
    refine RunL.still rfl rfl rfl (Still.move rfl rfl) ?_
    refine RunL.split (t := 26) rfl (fun h26 => ?_) (fun h26 => ?_)
    · have h26 := of_decide_eq_true h26
      have h1 := hv.1; omega
    · have h26 := of_decide_eq_false h26
      refine RunL.still rfl rfl rfl (Still.move rfl rfl) ?_
      refine RunL.still rfl rfl rfl (Still.move rfl rfl) ?_
      refine RunL.still rfl rfl rfl (Still.gtr rfl rfl rfl) ?_
      refine RunL.still rfl rfl rfl (Still.pickF rfl rfl rfl) ?_
      refine RunL.nil ?_
      refine Ends.then ?_
      refine RunC.cond rfl (fun h30 => ?_) (fun h30 => ?_)
      · have h30 := of_decide_eq_true h30
        omega
      · have h30 := of_decide_eq_false h30
        refine RunC.skip ?_
        refine Ends.then ?_
        refine RunC.seq ?_
        refine RunC.region ?_
        refine RunL.still rfl rfl rfl (Still.move rfl rfl) ?_
        refine RunL.still rfl rfl rfl (Still.assign rfl rfl) ?_
        refine RunL.nil ?_
        refine Ends.then ?_
        refine RunC.ret ?_
        refine Ends.leave (.inl rfl) (fun _ _ ok => results1 Tryd.results32 (Holds.tmp rfl) ok) (fun w1 hs => ?_)
        exact Ret.intro () trivial rfl (HSub.nil _) hs

theorem gl_face (b : Nat) (s : ByteArray) (x : Fc) (w : World) (hr : (HL.obj b (.cells #[.string s] 67 (0, 0))).holds w) (hb : b < w.heap.size) {w00 : World} (he : Env w00) (hO : Old Nil w00 w) (hf0 : w00.heap.size ≤ b) (hx : FStep s x) : Gives Tryd.prog 34 #[ptrV b] w (fun c => c = b) (fun _ : Unit => True) (fun _ => fcV x) (fun _ => [HL.obj b (.cells #[.string (wR (wR s))] 67 (0, 0))]) := by
  have hnum := hx.num
  have h1s := hx.one
  refine fn_of_run (S := (fun c => c = b)) (args := [ptrV b]) (n := 66) (L := [HL.obj b (.cells #[.string s] 67 (0, 0))]) Tryd.func34 rfl Tryd.ntmps34 (Nat.le_of_ble_eq_true rfl) (Sym.own1 hr (fun c hc => by have e : c = b := hc; omega)) ?_
  change RunC _ _ _ [(0, _)] _
  refine RunC.seq ?_
  refine RunC.region ?_
  refine RunL.grows rfl rfl rfl (Grows.alloc rfl Tryd.zeroValue36) (fun b2 _ => ?_)
  refine RunL.nil ?_
  refine Ends.then ?_
  refine RunC.seq ?_
  refine RunC.region ?_
  refine RunL.still rfl rfl rfl (Still.move rfl rfl) ?_
  refine RunL.still rfl rfl rfl (Still.nilCheck rfl rfl) ?_
  refine RunL.still rfl rfl rfl (Still.fieldAddrL (off := 0) (off' := 0) rfl rfl Tryd.underlying67 rfl Tryd.sizeOf65 rfl) ?_
  refine RunL.does rfl rfl rfl (Does.call (vs := #[_]) (K := [_]) (R := [_]) (S' := (fun c => c = b)) rfl rfl Tryd.call33 (HSub.pick 1 rfl (HSub.pick 0 rfl (HSub.nil _))) (fun c hc => ⟨_, List.mem_cons_self .., hc⟩) (fun w hs => gl_word b s w (hs.at (i := 0) rfl) (hs.lt (i := 0) rfl) he (hs.outer hO (fun c hc => .inl (by have e : c = b := hc; omega))) hf0 hx.w)) (fun _ _ => ?_)
  refine RunL.still rfl rfl rfl (Still.assign rfl rfl) ?_
  refine RunL.nil ?_
  refine Ends.then ?_
  refine RunC.seq ?_
  refine RunC.seq ?_
  refine RunC.region ?_
  refine RunL.still rfl rfl rfl (Still.move rfl rfl) ?_
  refine RunL.still rfl rfl rfl (Still.eqlStrD rfl rfl rfl) ?_
  refine RunL.nil ?_
  refine Ends.then ?_
  refine RunC.cond rfl (fun h13 => ?_) (fun h13 => ?_)
  · have h13 := of_decide_eq_true h13
    exact absurd h13 hx.dash
  · have h13 := of_decide_eq_false h13
    refine RunC.skip ?_
    refine Ends.then ?_
    refine RunC.seq ?_
    refine RunC.region ?_
    refine RunL.still rfl rfl rfl (Still.move rfl rfl) ?_
    refine RunL.grows rfl rfl rfl (Grows.call (vs := #[_, _]) rfl rfl Tryd.call45 (fun w hs => z_TrimLeftD (wW s) w)) (fun _ _ => ?_)
    refine RunL.still rfl rfl rfl (Still.assign rfl rfl) ?_
    refine RunL.nil ?_
    refine Ends.then ?_
    refine RunC.seq ?_
    refine RunC.seq ?_
    refine RunC.region ?_
    refine RunL.still rfl rfl rfl (Still.move rfl rfl) ?_
    refine RunL.still rfl rfl rfl (Still.neqStrD rfl rfl rfl) ?_
    refine RunL.still rfl rfl rfl (Still.move rfl rfl) ?_
    refine RunL.split (t := 19) rfl (fun h19 => ?_) (fun h19 => ?_)
    · have h19 := of_decide_eq_true h19
      exact absurd hx.dig h19
    · have h19 := of_decide_eq_false h19
      refine RunL.still rfl rfl rfl (Still.move rfl rfl) ?_
      refine RunL.still rfl rfl rfl (Still.lenStr rfl rfl Tryd.underlying9) ?_
      refine RunL.still rfl rfl rfl (Still.gtr rfl rfl rfl) ?_
      refine RunL.still rfl rfl rfl (Still.move rfl rfl) ?_
      refine RunL.split (t := 23) rfl (fun h23 => ?_) (fun h23 => ?_)
      · have h23 := of_decide_eq_true h23
        omega
      · have h23 := of_decide_eq_false h23
        refine RunL.off rfl rfl rfl ?_
        refine RunL.off rfl rfl rfl ?_
        refine RunL.off rfl rfl rfl ?_
        refine RunL.still rfl rfl rfl (Still.pickF rfl rfl rfl) ?_
        refine RunL.still rfl rfl rfl (Still.pickF rfl rfl rfl) ?_
        refine RunL.nil ?_
        refine Ends.then ?_
        refine RunC.cond_false rfl ?_
        refine RunC.skip ?_
        refine Ends.then ?_
        refine RunC.seq ?_
        refine RunC.region ?_
        refine RunL.still rfl rfl rfl (Still.build_1 (fun x0_0 => .agg #[x0_0, .int .i64 0, .int .i64 0, .int .i64 0, .int .i64 0]) rfl rfl (fun _ => by kernel_rfl)) ?_
        refine RunL.grows rfl rfl rfl (Grows.alloc rfl Tryd.zeroValue36) (fun b5 _ => ?_)
        refine RunL.does0 rfl rfl (Does.store rfl rfl rfl (i := 0) rfl Tryd.sizeOf36 rfl (rfl) rfl) (fun _ _ => ?_)
        refine RunL.conv (fun _ hs => hs.re 0 rfl (show _ = HL.obj b5 (.cells #[iv 1000, iv 0, iv 0, iv 0, iv 0] 36 (0, 0)) from rfl)) ?_
        refine RunL.nil ?_
        refine Ends.then ?_
        refine RunC.seq ?_
        refine RunC.seq ?_
        refine RunC.region ?_
        refine RunL.still rfl rfl rfl (Still.move rfl rfl) ?_
        refine RunL.still rfl rfl rfl (Still.lenStr rfl rfl Tryd.underlying9) ?_
        refine RunL.still rfl rfl rfl (Still.leq rfl rfl rfl) ?_
        refine RunL.nil ?_
        refine Ends.then ?_
        refine RunC.cond rfl (fun h34 => ?_) (fun h34 => ?_)
        · have h34 := of_decide_eq_true h34
          refine RunC.region ?_
          refine RunL.still rfl rfl rfl (Still.move rfl rfl) ?_
          refine RunL.still rfl rfl rfl (Still.move rfl rfl) ?_
          refine RunL.grows rfl rfl rfl (Grows.call (vs := #[_, _, _]) rfl rfl Tryd.call32 (fun w hs => gl_number b (wW s) x.tet 9999 w (he.old (hs.outer hO (fun c hc => .inl (by have e : c = b := hc; omega)))) hx.num (by have := hx.num.2.1; omega))) (fun _ _ => ?_)
          refine RunL.still rfl rfl rfl (Still.fieldAddrL (off := 0) (off' := 0) rfl rfl Tryd.underlying36 rfl Tryd.sizeOf3 rfl) ?_
          refine RunL.does0 rfl rfl (Does.store1 rfl rfl rfl (i := 0) rfl Tryd.sizeOf3 (rfl) (rfl)) (fun _ _ => ?_)
          refine RunL.conv (fun _ hs => hs.re 0 rfl (show _ = HL.obj b5 (.cells #[iv x.tet, iv 0, iv 0, iv 0, iv 0] 36 (0, 0)) from rfl)) ?_
          refine RunL.nil ?_
          refine Ends.then ?_
          refine RunC.seq ?_
          refine RunC.region ?_
          refine RunL.still rfl rfl rfl (Still.move rfl rfl) ?_
          refine RunL.still rfl rfl rfl (Still.nilCheck rfl rfl) ?_
          refine RunL.still rfl rfl rfl (Still.fieldAddrL (off := 0) (off' := 0) rfl rfl Tryd.underlying67 rfl Tryd.sizeOf65 rfl) ?_
          refine RunL.does rfl rfl rfl (Does.call (vs := #[_]) (K := [_]) (R := [_, _]) (S' := (fun c => c = b)) rfl rfl Tryd.call33 (HSub.pick 1 rfl (HSub.pick 0 rfl (HSub.pick 0 rfl (HSub.nil _)))) (fun c hc => ⟨_, List.mem_cons_self .., hc⟩) (fun w hs => gl_word b (wR s) w (hs.at (i := 0) rfl) (hs.lt (i := 0) rfl) he (hs.outer hO (fun c hc => .inl (by have e : c = b := hc; omega))) hf0 hx.w2)) (fun _ _ => ?_)
          refine RunL.still rfl rfl rfl (Still.assign rfl rfl) ?_
          refine RunL.nil ?_
          refine Ends.then ?_
          refine RunC.seq ?_
          refine RunC.seq ?_
          refine RunC.region ?_
          refine RunL.still rfl rfl rfl (Still.move rfl rfl) ?_
          refine RunL.still rfl rfl rfl (Still.lenStr rfl rfl Tryd.underlying9) ?_
          refine RunL.still rfl rfl rfl (Still.neq rfl rfl rfl) ?_
          refine RunL.still rfl rfl rfl (Still.move rfl rfl) ?_
          refine RunL.split (t := 46) rfl (fun h46 => ?_) (fun h46 => ?_)
          · have h46 := of_decide_eq_true h46
            have := hx.four; omega
          · have h46 := of_decide_eq_false h46
            refine RunL.still rfl rfl rfl (Still.move rfl rfl) ?_
            refine RunL.grows rfl rfl rfl (Grows.call (vs := #[_, _]) rfl rfl Tryd.call35 (fun w hs => z_TrimD (wW (wR s)) w (by have := hx.four; omega))) (fun _ _ => ?_)
            refine RunL.still rfl rfl rfl (Still.neqStrD rfl rfl rfl) ?_
            refine RunL.still rfl rfl rfl (Still.pickF rfl rfl rfl) ?_
            refine RunL.nil ?_
            refine Ends.then ?_
            refine RunC.cond rfl (fun h50 => ?_) (fun h50 => ?_)
            · have h50 := of_decide_eq_true h50
              exact absurd hx.digs h50
            · have h50 := of_decide_eq_false h50
              refine RunC.skip ?_
              refine Ends.then ?_
              refine RunC.seq ?_
              refine RunC.seq ?_
              refine RunC.region ?_
              refine RunL.still rfl rfl rfl (Still.move rfl rfl) ?_
              refine RunL.nil ?_
              refine Ends.then ?_
              refine RunC.block ?_
              refine RunC.loop2 (γ := Nat) (keep := [(2, _), (5, _), (6, _)]) (hkeep := [_, _]) (fun i => i ≤ 4) (fun i => 4 - i) (fun i => [(53, iv i)]) (fun i => [HL.obj b5 (.cells (fTo x i) 36 (0, 0))]) 0 (by omega) (Fr.Sub.cons rfl (Fr.Sub.nil _)) (Fr.Sub.cons rfl (Fr.Sub.cons rfl (Fr.Sub.cons rfl (Fr.Sub.nil _)))) (HSub.pick 1 rfl (HSub.pick 0 rfl (HSub.pick 0 rfl (HSub.nil _)))) ?_
              rintro i hi
              refine RunC.seq ?_
              refine RunC.region ?_
              refine RunL.still rfl rfl rfl (Still.lss rfl rfl rfl) ?_
              refine RunL.nil ?_
              refine Ends.then ?_
              refine RunC.seq ?_
              refine RunC.cond rfl (fun h54 => ?_) (fun h54 => ?_)
              · have h54 := of_decide_eq_true h54
                have hi4 : i < 4 := by omega
                have hlo := hx.lo i hi4
                have hby := byteAt_lt (wW (wR s)) i
                have hxf := hx.four
                refine RunC.skip ?_
                refine Ends.then ?_
                refine RunC.seq ?_
                refine RunC.block ?_
                refine RunC.seq ?_
                refine RunC.region ?_
                refine RunL.still rfl rfl rfl (Still.move rfl rfl) ?_
                refine RunL.still rfl rfl rfl (Still.assign rfl rfl) ?_
                refine RunL.nil ?_
                refine Ends.then ?_
                refine RunC.region ?_
                refine RunL.still rfl rfl rfl (Still.move rfl rfl) ?_
                refine RunL.still rfl rfl rfl (Still.move rfl rfl) ?_
                refine RunL.still rfl rfl rfl (Still.move rfl rfl) ?_
                refine RunL.still rfl rfl rfl (Still.indexStrB (i) rfl rfl rfl Tryd.underlying9 (by omega)) ?_
                refine RunL.still rfl rfl rfl (Still.sub rfl rfl rfl (fits8 (by omega) (by omega))) ?_
                refine RunL.still rfl rfl rfl (Still.convInt rfl rfl ((congrArg Option.isSome Tryd.underlying5).trans rfl) Tryd.underlying3 (wrap_i64 (by omega) (by omega))) ?_
                refine RunL.still rfl rfl rfl (Still.fieldAddrL (off := 0) (off' := 1) rfl rfl Tryd.underlying36 rfl Tryd.sizeOf23 rfl) ?_
                refine RunL.still rfl rfl rfl (Still.indexArrNL rfl rfl rfl Tryd.underlying23 Tryd.sizeOf3 (by omega)) ?_
                refine RunL.does0 rfl rfl (Does.store1 rfl rfl rfl (i := 0) rfl Tryd.sizeOf3 rfl (Nat.ble_eq_true_of_le (show 1 + i * 1 + 1 ≤ 5 by omega))) (fun _ _ => ?_)
                refine RunL.conv (fun _ hs => hs.re 0 rfl (show _ = HL.obj b5 (.cells (fTo x (i + 1)) 36 (0, 0)) from congrArg (fun z => HL.obj b5 (.cells z 36 (0, 0))) (fTo_set x hi4 (hx.at' i hi4).symm))) ?_
                refine RunL.nil ?_
                refine Ends.block ?_
                refine Ends.then ?_
                refine RunC.region ?_
                refine RunL.still rfl rfl rfl (Still.add rfl rfl rfl (fits64 (by omega) (by omega))) ?_
                refine RunL.still rfl rfl rfl (Still.move rfl rfl) ?_
                refine RunL.nil ?_
                refine Ends.again (i + 1) ?_ ?_ (Fr.Sub.app ?_ ?_) ?_
                · show _; omega
                · show _ < _; omega
                · exact Fr.Sub.cons rfl (Fr.Sub.nil _)
                · exact Fr.Sub.cons rfl (Fr.Sub.cons rfl (Fr.Sub.cons rfl (Fr.Sub.nil _)))
                · exact HSub.pick 0 rfl (HSub.pick 0 rfl (HSub.pick 0 rfl (HSub.nil _)))
              · have h54 := of_decide_eq_false h54
                obtain rfl : i = 4 := by omega
                refine RunC.exit ?_
                refine Ends.then_exit ?_
                refine Ends.then_exit ?_
                refine Ends.block_exit ?_
                refine Ends.then ?_
                refine RunC.seq ?_
                refine RunC.region ?_
                refine RunL.still rfl rfl rfl (Still.loads rfl rfl Tryd.isAgg36 Tryd.sizeOf36 (vs := [_, _, _, _, _]) rfl (fun _ hs => cells_nth (hs.at (i := 0) rfl) ⟨rfl, ⟨rfl, ⟨rfl, ⟨rfl, ⟨rfl, trivial⟩⟩⟩⟩⟩)) ?_
                refine RunL.does0 rfl rfl (Does.store rfl rfl rfl (i := 2) rfl Tryd.sizeOf36 rfl (rfl) rfl) (fun _ _ => ?_)
                refine RunL.nil ?_
                refine Ends.then ?_
                refine RunC.ret ?_
                refine Ends.leave (.inl rfl) (fun _ _ ok => results1 Tryd.results34 (Holds.cell rfl (fun _ hs => load_cells (vs := [_, _, _, _, _]) Tryd.isAgg36 Tryd.sizeOf36 rfl (cells_nth (hs.at (i := 2) rfl) ⟨rfl, ⟨rfl, ⟨rfl, ⟨rfl, ⟨rfl, trivial⟩⟩⟩⟩⟩))) ok) (fun w1 hs => ?_)
                exact Ret.intro () trivial rfl (HSub.pick 1 rfl (HSub.nil _)) hs
        · have h34 := of_decide_eq_false h34
          omega

theorem parse_ret (ba bb : Nat) (v e : Value) {w0 : World} {S0 : Nat → Prop} (w : World) (hs : Sym w0 S0 [HL.obj ba (.cells #[v] 33 (0, 0)), HL.obj bb (.cells #[e] 38 (0, 0))] w) : CallsBack Tryd.prog 31 #[ptrV ba, ptrV bb] .returning .returning w (fun c => ∃ k ∈ [HL.obj ba (.cells #[v] 33 (0, 0)), HL.obj bb (.cells #[e] 38 (0, 0))], k.supp c) [HL.obj ba (.cells #[v] 33 (0, 0)), HL.obj bb (.cells #[e] 38 (0, 0))] := by
  refine callsBack_recover (args := [ptrV ba, ptrV bb]) (n := 17) Tryd.func31 rfl rfl rfl rfl rfl rfl rfl Tryd.ntmps31 (Nat.le_of_ble_eq_true rfl) rfl rfl Tryd.results31 hs.hand rfl ?_
  change RunC _ _ _ [(2, _), (5, _), (0, _), (1, _)] _
  refine RunC.seq ?_
  refine RunC.region ?_
  refine RunL.still rfl rfl rfl (Still.move rfl rfl) ?_
  refine RunL.still rfl rfl rfl (Still.neqNilN rfl rfl in_iface20) ?_
  refine RunL.nil ?_
  refine Ends.then ?_
  refine RunC.cond_false rfl ?_
  refine RunC.skip ?_
  exact Ends.back (.inr rfl) rfl (HSub.pick 0 rfl (HSub.pick 0 rfl (HSub.nil _)))

theorem gl_Parse_one (w : World) (he : Env w) : Gives Tryd.prog 20 #[.string txtOne] w Nil (fun q : Option Addr × Nat => OKB q gOne.length) (fun q => .tuple #[gluV q.1 q.2 gOne, iv 0]) (fun q => [ownG q gOne]) := by
  refine fn_of_runD (S := Nil) (args := [.string txtOne]) (n := 57) (L := []) Tryd.func20 rfl Tryd.ntmps20 (Nat.le_of_ble_eq_true rfl) (Sym.nil _ _) ?_
  change RunC _ _ _ [(0, _)] _
  refine RunC.seq ?_
  refine RunC.region ?_
  refine RunL.grows rfl rfl rfl (Grows.alloc rfl Tryd.zeroValue33) (fun b2 _ => ?_)
  refine RunL.own_nil 37 20 ?_
  refine RunL.grows rfl rfl rfl (Grows.alloc rfl Tryd.zeroValue38) (fun b3 _ => ?_)
  refine RunL.nil ?_
  refine Ends.then ?_
  refine RunC.seq ?_
  refine RunC.seq ?_
  refine RunC.region ?_
  refine RunL.still rfl rfl rfl (Still.move rfl rfl) ?_
  refine RunL.still rfl rfl rfl (Still.lenStr rfl rfl Tryd.underlying9) ?_
  refine RunL.still rfl rfl rfl (Still.gtr rfl rfl rfl) ?_
  refine RunL.nil ?_
  refine Ends.then ?_
  refine RunC.cond rfl (fun h11 => ?_) (fun h11 => ?_)
  · have h11 := of_decide_eq_true h11
    exact absurd h11 (by decide +kernel)
  · have h11 := of_decide_eq_false h11
    refine RunC.skip ?_
    refine Ends.then ?_
    refine RunC.seq ?_
    refine RunC.region ?_
    refine RunL.still rfl rfl rfl (Still.makeFunc (vs := #[_, _]) rfl rfl) ?_
    refine RunL.defer rfl rfl rfl rfl rfl ?_
    refine RunL.nil ?_
    refine Ends.then ?_
    refine RunC.seq ?_
    refine RunC.region ?_
    refine RunL.still rfl rfl rfl (Still.move rfl rfl) ?_
    refine RunL.still rfl rfl rfl (Still.build_1 (fun x0_0 => .agg #[x0_0]) rfl rfl (fun _ => by kernel_rfl)) ?_
    refine RunL.still rfl rfl rfl (Still.build_1 (fun _ => .agg #[.string txtOne]) rfl rfl (fun _ => by kernel_rfl)) ?_
    refine RunL.grows rfl rfl rfl (Grows.box rfl rfl) (fun b17 _ => ?_)
    refine RunL.still rfl rfl rfl (Still.assign rfl rfl) ?_
    refine RunL.nil ?_
    refine Ends.then ?_
    refine RunC.seq ?_
    refine RunC.region ?_
    refine RunL.still rfl rfl rfl (Still.move rfl rfl) ?_
    refine RunL.still rfl rfl rfl (Still.move rfl rfl) ?_
    refine RunL.still rfl rfl rfl (Still.nilCheck rfl rfl) ?_
    refine RunL.still rfl rfl rfl (Still.fieldAddrL (off := 0) (off' := 0) rfl rfl Tryd.underlying67 rfl Tryd.sizeOf65 rfl) ?_
    refine RunL.does rfl rfl rfl (Does.call (vs := #[_]) (K := [_]) (R := [_, _, _]) (S' := (fun c => c = b17)) rfl rfl Tryd.call33 (HSub.pick 0 rfl (HSub.pick 0 rfl (HSub.pick 0 rfl (HSub.pick 0 rfl (HSub.nil _))))) (fun c hc => ⟨_, List.mem_cons_self .., hc⟩) (fun w hs => gl_word b17 txtOne w (hs.at (i := 0) rfl) (hs.lt (i := 0) rfl) he hs.old ((hs.supp _ (List.mem_of_getElem? (i := 0) rfl) b17 rfl).2.resolve_right (fun h => h)) one_w)) (fun _ _ => ?_)
    refine RunL.grows rfl rfl rfl (Grows.call (vs := #[_, _, _]) rfl rfl Tryd.call32 (fun w hs => gl_number b17 (wW txtOne) 1 1000 w (he.sym hs) one_num (by decide))) (fun _ _ => ?_)
    refine RunL.still rfl rfl rfl (Still.assign rfl rfl) ?_
    refine RunL.nil ?_
    refine Ends.then ?_
    refine RunC.seq ?_
    refine RunC.seq ?_
    refine RunC.region ?_
    refine RunL.still rfl rfl rfl (Still.move rfl rfl) ?_
    refine RunL.still rfl rfl rfl (Still.move rfl rfl) ?_
    refine RunL.nil ?_
    refine Ends.then ?_
    refine RunC.block ?_
    refine RunC.loop2 (γ := Value × Nat) (keep := [(2, _), (3, _), (4, _), (24, _)]) (hkeep := [_]) (fun (v, c) => c ≤ 1) (fun (v, c) => 1 - c) (fun (v, c) => [(25, iv c)]) (fun (v, c) => [HL.obj b2 (.cells #[v] 33 (0, 0)), HL.own 37 20 v c ((gOne.take c).flatMap encT), HL.obj b17 (.cells #[.string (restAt (4 * c))] 67 (0, 0))]) (.slice none 0 0, 0) (by omega) (Fr.Sub.cons rfl (Fr.Sub.nil _)) (Fr.Sub.cons rfl (Fr.Sub.cons rfl (Fr.Sub.cons rfl (Fr.Sub.cons rfl (Fr.Sub.nil _))))) (HSub.pick 3 rfl (HSub.pick 2 rfl (HSub.pick 0 rfl (HSub.pick 0 rfl (HSub.nil _))))) ?_
    rintro ⟨v, c⟩ hc
    have hc : c ≤ 1 := hc
    refine RunC.seq ?_
    refine RunC.region ?_
    refine RunL.still rfl rfl rfl (Still.lss rfl rfl rfl) ?_
    refine RunL.nil ?_
    refine Ends.then ?_
    refine RunC.seq ?_
    refine RunC.cond rfl (fun h26 => ?_) (fun h26 => ?_)
    · have h26 := of_decide_eq_true h26
      obtain rfl : c = 0 := by omega
      refine RunC.skip ?_
      refine Ends.then ?_
      refine RunC.seq ?_
      refine RunC.block ?_
      refine RunC.seq ?_
      refine RunC.region ?_
      refine RunL.grows rfl rfl rfl (Grows.alloc rfl Tryd.zeroValue37) (fun b6 _ => ?_)
      refine RunL.nil ?_
      refine Ends.then ?_
      refine RunC.seq ?_
      refine RunC.seq ?_
      refine RunC.region ?_
      refine RunL.still rfl rfl rfl (Still.move rfl rfl) ?_
      refine RunL.nil ?_
      refine Ends.then ?_
      refine RunC.block ?_
      refine RunC.loop2 (γ := Nat) (keep := [(2, _), (3, _), (4, _), (6, _), (24, _), (25, _)]) (hkeep := [_, _, _]) (fun f => f ≤ 4) (fun f => 4 - f) (fun f => [(27, iv f)]) (fun f => [HL.obj b6 (.cells (ttA (rowTo f)) 37 (0, 0)), HL.obj b17 (.cells #[.string (restAt f)] 67 (0, 0))]) 0 (by omega) (Fr.Sub.cons rfl (Fr.Sub.nil _)) (Fr.Sub.cons rfl (Fr.Sub.cons rfl (Fr.Sub.cons rfl (Fr.Sub.cons rfl (Fr.Sub.cons rfl (Fr.Sub.cons rfl (Fr.Sub.nil _))))))) (HSub.pick 0 rfl (HSub.pick 2 rfl (HSub.pick 0 rfl (HSub.pick 0 rfl (HSub.pick 0 rfl (HSub.nil _)))))) ?_
      rintro f hf
      refine RunC.seq ?_
      refine RunC.region ?_
      refine RunL.still rfl rfl rfl (Still.lss rfl rfl rfl) ?_
      refine RunL.nil ?_
      refine Ends.then ?_
      refine RunC.seq ?_
      refine RunC.cond rfl (fun h28 => ?_) (fun h28 => ?_)
      · have h28 := of_decide_eq_true h28
        have hf4 : f < 4 := by omega
        refine RunC.skip ?_
        refine Ends.then ?_
        refine RunC.seq ?_
        refine RunC.block ?_
        refine RunC.seq ?_
        refine RunC.region ?_
        refine RunL.still rfl rfl rfl (Still.move rfl rfl) ?_
        refine RunL.still rfl rfl rfl (Still.assign rfl rfl) ?_
        refine RunL.nil ?_
        refine Ends.then ?_
        refine RunC.region ?_
        refine RunL.still rfl rfl rfl (Still.move rfl rfl) ?_
        refine RunL.still rfl rfl rfl (Still.move rfl rfl) ?_
        refine RunL.does rfl rfl rfl (Does.call (vs := #[_]) (K := [_]) (R := [_, _, _, _]) (S' := (fun c => c = b17)) rfl rfl Tryd.call34 (HSub.pick 1 rfl (HSub.pick 0 rfl (HSub.pick 0 rfl (HSub.pick 0 rfl (HSub.pick 0 rfl (HSub.nil _)))))) (fun c hc => ⟨_, List.mem_cons_self .., hc⟩) (fun w hs => gl_face b17 (restAt f) (tOne.at f) w (hs.at (i := 0) rfl) (hs.lt (i := 0) rfl) he hs.old ((hs.supp _ (List.mem_of_getElem? (i := 0) rfl) b17 rfl).2.resolve_right (fun h => h)) (one_face hf4))) (fun _ _ => ?_)
        refine RunL.still rfl rfl rfl (Still.indexArrNL rfl rfl rfl Tryd.underlying37 Tryd.sizeOf36 (by omega)) ?_
        refine RunL.does0 rfl rfl (Does.store rfl rfl rfl (i := 1) rfl Tryd.sizeOf36 rfl (Nat.ble_eq_true_of_le (show 0 + f * 5 + 5 ≤ 20 by omega)) rfl) (fun _ _ => ?_)
        refine RunL.conv (fun _ hs => hs.re 1 rfl (show _ = HL.obj b6 (.cells (ttA (rowTo (f + 1))) 37 (0, 0)) from congrArg (fun z => HL.obj b6 (.cells z 37 (0, 0))) (rowTo_set hf4))) ?_
        refine RunL.nil ?_
        refine Ends.block ?_
        refine Ends.then ?_
        refine RunC.region ?_
        refine RunL.still rfl rfl rfl (Still.add rfl rfl rfl (fits64 (by omega) (by omega))) ?_
        refine RunL.still rfl rfl rfl (Still.move rfl rfl) ?_
        refine RunL.nil ?_
        refine Ends.again (f + 1) ?_ ?_ (Fr.Sub.app ?_ ?_) ?_
        · show _; omega
        · show _ < _; omega
        · exact Fr.Sub.cons rfl (Fr.Sub.nil _)
        · exact Fr.Sub.cons rfl (Fr.Sub.cons rfl (Fr.Sub.cons rfl (Fr.Sub.cons rfl (Fr.Sub.cons rfl (Fr.Sub.cons rfl (Fr.Sub.nil _))))))
        · exact HSub.pick 1 rfl (HSub.pick 0 rfl (HSub.pick 0 rfl (HSub.pick 0 rfl (HSub.pick 0 rfl (HSub.nil _)))))
      · have h28 := of_decide_eq_false h28
        obtain rfl : f = 4 := by omega
        refine RunC.exit ?_
        refine Ends.then_exit ?_
        refine Ends.then_exit ?_
        refine Ends.block_exit ?_
        refine Ends.then ?_
        refine RunC.region ?_
        refine RunL.still rfl rfl rfl (Still.fieldAddrL (off := 0) (off' := 0) rfl rfl Tryd.underlying33 rfl Tryd.sizeOf31 rfl) ?_
        refine RunL.still rfl rfl rfl (Still.load rfl rfl Tryd.isAgg31 (fun _ hs => cell_nth (hs.at (i := 2) rfl) rfl)) ?_
        refine RunL.still rfl rfl rfl (Still.loads rfl rfl Tryd.isAgg37 Tryd.sizeOf37 (vs := [_, _, _, _, _, _, _, _, _, _, _, _, _, _, _, _, _, _, _, _]) rfl (fun _ hs => cells_nth (hs.at (i := 0) rfl) ⟨rfl, ⟨rfl, ⟨rfl, ⟨rfl, ⟨rfl, ⟨rfl, ⟨rfl, ⟨rfl, ⟨rfl, ⟨rfl, ⟨rfl, ⟨rfl, ⟨rfl, ⟨rfl, ⟨rfl, ⟨rfl, ⟨rfl, ⟨rfl, ⟨rfl, ⟨rfl, trivial⟩⟩⟩⟩⟩⟩⟩⟩⟩⟩⟩⟩⟩⟩⟩⟩⟩⟩⟩⟩)) ?_
        refine RunL.grows rfl rfl rfl (Grows.slice1 rfl rfl Tryd.underlying31 Tryd.sizeOf37 rfl Tryd.zeroValue37 (by decide)) (fun b38 _ => ?_)
        refine RunL.does rfl rfl rfl (Does.appendTo (n' := 1) (xs' := (gOne.flatMap encT)) (news := [_, _, _, _, _, _, _, _, _, _, _, _, _, _, _, _, _, _, _, _]) rfl rfl rfl rfl (i := 4) rfl Tryd.underlying31 (by kernel_rfl : (_ : Option _) = some (some (.agg #[.int .i64 0, .int .i64 0, .int .i64 0, .int .i64 0, .int .i64 0, .int .i64 0, .int .i64 0, .int .i64 0, .int .i64 0, .int .i64 0, .int .i64 0, .int .i64 0, .int .i64 0, .int .i64 0, .int .i64 0, .int .i64 0, .int .i64 0, .int .i64 0, .int .i64 0, .int .i64 0]), 20, 160)) rfl rfl (fun _ hs => cells_nth (hs.at (i := 0) rfl) ⟨rfl, ⟨rfl, ⟨rfl, ⟨rfl, ⟨rfl, ⟨rfl, ⟨rfl, ⟨rfl, ⟨rfl, ⟨rfl, ⟨rfl, ⟨rfl, ⟨rfl, ⟨rfl, ⟨rfl, ⟨rfl, ⟨rfl, ⟨rfl, ⟨rfl, ⟨rfl, trivial⟩⟩⟩⟩⟩⟩⟩⟩⟩⟩⟩⟩⟩⟩⟩⟩⟩⟩⟩⟩) rfl rfl (by omega) (by omega) (rfl) (rfl)) (fun v39 hv39 => ?_)
        refine RunL.know (fun _ hs => own_oneCell (hs.own (i := 4) rfl)) (fun h1v => ?_)
        refine RunL.still rfl rfl rfl (Still.fieldAddrL (off := 0) (off' := 0) rfl rfl Tryd.underlying33 rfl Tryd.sizeOf31 rfl) ?_
        refine RunL.does0 rfl rfl (Does.store1 rfl rfl rfl (i := 3) rfl Tryd.sizeOf31 (h1v) (rfl)) (fun _ _ => ?_)
        refine RunL.nil ?_
        refine Ends.block ?_
        refine Ends.then ?_
        refine RunC.region ?_
        refine RunL.still rfl rfl rfl (Still.add rfl rfl rfl (fits64 (by omega) (by omega))) ?_
        refine RunL.still rfl rfl rfl (Still.move rfl rfl) ?_
        refine RunL.nil ?_
        refine Ends.again (v39, 0 + 1) ?_ ?_ (Fr.Sub.app ?_ ?_) ?_
        · show 0 + 1 ≤ 1; omega
        · show 1 - (0 + 1) < 1 - 0; omega
        · exact Fr.Sub.cons rfl (Fr.Sub.nil _)
        · exact Fr.Sub.cons rfl (Fr.Sub.cons rfl (Fr.Sub.cons rfl (Fr.Sub.cons rfl (Fr.Sub.nil _))))
        · exact HSub.pick 3 rfl (HSub.pick 3 rfl (HSub.pick 2 rfl (HSub.pick 2 rfl (HSub.nil _))))
    · have h26 := of_decide_eq_false h26
      obtain rfl : c = 1 := by omega
      refine RunC.know (fun _ hs => own_shape (hs.own (i := 1) rfl)) (fun hsh => ?_)
      obtain ⟨vb, vc, hvv, hvb⟩ := hsh
      subst hvv
      refine RunC.exit ?_
      refine Ends.then_exit ?_
      refine Ends.then_exit ?_
      refine Ends.block_exit ?_
      refine Ends.then ?_
      refine RunC.seq ?_
      refine RunC.seq ?_
      refine RunC.region ?_
      refine RunL.still rfl rfl rfl (Still.move rfl rfl) ?_
      refine RunL.still rfl rfl rfl (Still.nilCheck rfl rfl) ?_
      refine RunL.still rfl rfl rfl (Still.fieldAddrL (off := 0) (off' := 0) rfl rfl Tryd.underlying67 rfl Tryd.sizeOf65 rfl) ?_
      refine RunL.still rfl rfl rfl (Still.fieldAddrL (off := 0) (off' := 0) rfl rfl Tryd.underlying65 rfl Tryd.sizeOf9 rfl) ?_
      refine RunL.still rfl rfl rfl (Still.load rfl rfl Tryd.isAgg9 (fun _ hs => cell_nth (hs.at (i := 2) rfl) rfl)) ?_
      refine RunL.grows rfl rfl rfl (Grows.call (vs := #[_, _]) rfl rfl Tryd.call35 (fun w hs => z_Trim1 (restAt 4) w (by have := one_end_size; omega))) (fun _ _ => ?_)
      refine RunL.still rfl rfl rfl (Still.neqStrD rfl rfl rfl) ?_
      refine RunL.nil ?_
      refine Ends.then ?_
      refine RunC.cond rfl (fun h48 => ?_) (fun h48 => ?_)
      · have h48 := of_decide_eq_true h48
        exact absurd one_end h48
      · skip
        refine RunC.skip ?_
        refine Ends.then ?_
        refine RunC.seq ?_
        refine RunC.seq ?_
        refine RunC.region ?_
        refine RunL.still rfl rfl rfl (Still.loads rfl rfl Tryd.isAgg33 Tryd.sizeOf33 (vs := [_]) rfl (fun _ hs => cells_nth (hs.at (i := 0) rfl) ⟨rfl, trivial⟩)) ?_
        refine RunL.grows rfl rfl rfl (Grows.call (vs := #[_]) rfl rfl Tryd.call22 (fun w hs => gl_Check vb (vaddr (.slice vb 1 vc)) vc gOne w (GluAt.of_ownG (q := (vb, vc)) (g := gOne) (by decide) (hs.at (i := 1) rfl)))) (fun _ _ => ?_)
        refine RunL.still rfl rfl rfl (Still.assign rfl rfl) ?_
        refine RunL.nil ?_
        refine Ends.then ?_
        refine RunC.seq ?_
        refine RunC.region ?_
        refine RunL.still rfl rfl rfl (Still.move rfl rfl) ?_
        refine RunL.still rfl rfl rfl (Still.neq rfl rfl rfl) ?_
        refine RunL.nil ?_
        refine Ends.then ?_
        refine RunC.cond rfl (fun h53 => ?_) (fun h53 => ?_)
        · have h53 := of_decide_eq_true h53
          exact absurd (chkG_ok one_ok) h53
        · have h53 := of_decide_eq_false h53
          refine RunC.skip ?_
          refine Ends.then ?_
          refine RunC.seq ?_
          refine RunC.region ?_
          refine RunL.still rfl rfl rfl (Still.loads rfl rfl Tryd.isAgg33 Tryd.sizeOf33 (vs := [_]) rfl (fun _ hs => cells_nth (hs.at (i := 0) rfl) ⟨rfl, trivial⟩)) ?_
          refine RunL.does0 rfl rfl (Does.store rfl rfl rfl (i := 0) rfl Tryd.sizeOf33 rfl (rfl) rfl) (fun _ _ => ?_)
          refine RunL.does0 rfl rfl (Does.store1 rfl rfl rfl (i := 3) rfl Tryd.sizeOf38 (rfl) (rfl)) (fun _ _ => ?_)
          refine RunL.nil ?_
          refine Ends.then ?_
          refine RunC.ret ?_
          refine Ends.leaveD (K := [_, _]) (Rr := [_, _]) (H := [_, _]) (.inl (.inl rfl)) rfl (fun w => by simp [invoke, Tryd.call31]) rfl (HSub.pick 0 rfl (HSub.pick 2 rfl (HSub.pick 0 rfl (HSub.pick 0 rfl (HSub.nil _))))) (fun _ h => h) (fun w hs => parse_ret b2 b3 _ _ w hs.left) (fun _ _ ok => results2 Tryd.results20 (Holds.cell rfl (fun _ hs => load_cells (vs := [_]) Tryd.isAgg33 Tryd.sizeOf33 rfl (cells_nth (hs.at (i := 0) rfl) ⟨rfl, trivial⟩))) (Holds.cell rfl (fun _ hs => load_one Tryd.isAgg38 (cell_nth (hs.at (i := 1) rfl) rfl))) ok) (fun w1 hs => ?_)
          exact Ret.intro (vb, vc) hvb rfl (HSub.pick 2 rfl (HSub.nil _)) hs

end Go.Proofs
/- Equality of gluings and of lists; counts; small gluings. -/
namespace Go.Proofs
open Go Go.V
set_option maxRecDepth 20000
theorem eqT (d : Nat) (x y : Tt) (w : World) : (Op.equalIn (d + 4) 37 (ttV x) (ttV y)).run Tryd.prog w = .ok (decide (x = y)) w := by
  have h := eq_arr4N (P := Tryd.prog) (t := 37) (e := 36) (i := Tryd.t36) Tryd.underlying37 (by kernel_rfl) (by kernel_rfl) Tryd.sizeOf36 Tryd.isAgg36 (d := d + 2) (cs := (ttV x).cells) (us := (ttV y).cells)
    (fun w => eqF d x.f0.tet x.f0.p.a0 x.f0.p.a1 x.f0.p.a2 x.f0.p.a3 y.f0.tet y.f0.p.a0 y.f0.p.a1 y.f0.p.a2 y.f0.p.a3 w) (fun w => eqF d x.f1.tet x.f1.p.a0 x.f1.p.a1 x.f1.p.a2 x.f1.p.a3 y.f1.tet y.f1.p.a0 y.f1.p.a1 y.f1.p.a2 y.f1.p.a3 w)
    (fun w => eqF d x.f2.tet x.f2.p.a0 x.f2.p.a1 x.f2.p.a2 x.f2.p.a3 y.f2.tet y.f2.p.a0 y.f2.p.a1 y.f2.p.a2 y.f2.p.a3 w) (fun w => eqF d x.f3.tet x.f3.p.a0 x.f3.p.a1 x.f3.p.a2 x.f3.p.a3 y.f3.tet y.f3.p.a0 y.f3.p.a1 y.f3.p.a2 y.f3.p.a3 w) w
  rw [show (ttV x) = .agg (ttV x).cells from rfl, show (ttV y) = .agg (ttV y).cells from rfl, h]
  congr 1
  refine decide_eq_decide.2 ?_
  rw [fc_eq, fc_eq, fc_eq, fc_eq]
  obtain ⟨a, b, c, e⟩ := x
  obtain ⟨a', b', c', e'⟩ := y
  simp
theorem take_eq_succ {α : Type} {a b : List α} {i : Nat} {x : α} (h : a.take i = b.take i) (ha : a[i]? = some x) (hb : b[i]? = some x) : a.take (i + 1) = b.take (i + 1) := by rw [List.take_add_one, List.take_add_one, h, ha, hb]
theorem take_eq_all {α : Type} {a b : List α} (h : a.take a.length = b.take a.length) (hl : a.length = b.length) : a = b := by rwa [List.take_length, hl, List.take_length] at h

theorem gl_Equal (ba : Option Addr) (A : Addr) (ca : Nat) (a : Glu) (bb : Option Addr) (B : Addr) (cb : Nat) (b : Glu) (w : World) (hga : GluAt w ba A a) (hgb : GluAt w bb B b) : Gives Tryd.prog 36 #[.slice ba a.length ca, .slice bb b.length cb] w Nil (fun _ : Unit => True) (fun _ => .bool (decide (a = b))) (fun _ => []) := by
  have hlen := hga.len
  have hlen2 := hgb.len
  refine fn_of_run (S := Nil) (args := [.slice ba a.length ca, .slice bb b.length cb]) (n := 26) (L := []) Tryd.func36 rfl Tryd.ntmps36 (Nat.le_of_ble_eq_true rfl) (Sym.nil _ _) ?_
  change RunC _ _ _ [(0, _), (1, _)] _
  refine RunC.seq ?_
  refine RunC.region ?_
  refine RunL.still rfl rfl rfl (Still.assign rfl rfl) ?_
  refine RunL.nil ?_
  refine Ends.then ?_
  refine RunC.seq ?_
  refine RunC.seq ?_
  refine RunC.region ?_
  refine RunL.still rfl rfl rfl (Still.move rfl rfl) ?_
  refine RunL.still rfl rfl rfl (Still.lenSlice rfl rfl Tryd.underlying31) ?_
  refine RunL.still rfl rfl rfl (Still.move rfl rfl) ?_
  refine RunL.still rfl rfl rfl (Still.lenSlice rfl rfl Tryd.underlying31) ?_
  refine RunL.still rfl rfl rfl (Still.neq rfl rfl rfl) ?_
  refine RunL.nil ?_
  refine Ends.then ?_
  refine RunC.cond rfl (fun h10 => ?_) (fun h10 => ?_)
  · have h10 := of_decide_eq_true h10
    refine RunC.seq ?_
    refine RunC.region ?_
    refine RunL.still rfl rfl rfl (Still.assign rfl rfl) ?_
    refine RunL.nil ?_
    refine Ends.then ?_
    refine RunC.ret ?_
    refine Ends.then_ret ?_
    refine Ends.leave (.inl rfl) (fun _ _ ok => results1 Tryd.results36 (Holds.tmp rfl) ok) (fun w1 hs => ?_)
    exact Ret.intro () trivial (congrArg Value.bool (decide_eq_false (fun e => h10 (by rw [e]))).symm) (HSub.nil _) hs
  · have h10 := of_decide_eq_false h10
    have hl : a.length = b.length := by omega
    refine RunC.skip ?_
    refine Ends.then ?_
    refine RunC.seq ?_
    refine RunC.seq ?_
    refine RunC.region ?_
    refine RunL.still rfl rfl rfl (Still.move rfl rfl) ?_
    refine RunL.still rfl rfl rfl (Still.lenSlice rfl rfl Tryd.underlying31) ?_
    refine RunL.still rfl rfl rfl (Still.move rfl rfl) ?_
    refine RunL.nil ?_
    refine Ends.then ?_
    refine RunC.block ?_
    refine RunC.loop2 (γ := Nat) (keep := [(0, _), (1, _), (12, _)]) (hkeep := []) (fun i => i ≤ a.length ∧ a.take i = b.take i) (fun i => a.length - i) (fun i => [(13, iv i)]) (fun i => []) 0 ⟨by omega, rfl⟩ (Fr.Sub.cons rfl (Fr.Sub.nil _)) (Fr.Sub.cons rfl (Fr.Sub.cons rfl (Fr.Sub.cons rfl (Fr.Sub.nil _)))) (HSub.nil _) ?_
    rintro i ⟨hi, htk⟩
    refine RunC.seq ?_
    refine RunC.region ?_
    refine RunL.still rfl rfl rfl (Still.lss rfl rfl rfl) ?_
    refine RunL.nil ?_
    refine Ends.then ?_
    refine RunC.seq ?_
    refine RunC.cond rfl (fun h14 => ?_) (fun h14 => ?_)
    · have h14 := of_decide_eq_true h14
      obtain ⟨x, hx⟩ := get_of_lt (l := a) (i := i) (by omega)
      obtain ⟨y, hy⟩ := get_of_lt (l := b) (i := i) (by omega)
      refine RunC.skip ?_
      refine Ends.then ?_
      refine RunC.seq ?_
      refine RunC.block ?_
      refine RunC.seq ?_
      refine RunC.region ?_
      refine RunL.still rfl rfl rfl (Still.move rfl rfl) ?_
      refine RunL.still rfl rfl rfl (Still.assign rfl rfl) ?_
      refine RunL.nil ?_
      refine Ends.then ?_
      refine RunC.seq ?_
      refine RunC.draw 8 (.still 0 (.still 1 (.still 2 (.still 3 (.still 4 (.still 5 (.still 6 (.still 7 .done)))))))) (by kernel_rfl) (by kernel_rfl) ?_
      refine RunG.still rfl rfl rfl rfl (Still.move rfl rfl) ?_
      refine RunG.still rfl rfl rfl rfl (Still.move rfl rfl) ?_
      refine RunG.still rfl rfl rfl rfl (Still.indexSliceN rfl rfl rfl Tryd.underlying31 Tryd.sizeOf37 (hga.base (by omega)) (by omega)) ?_
      refine RunG.still rfl rfl rfl rfl (Still.loads rfl rfl Tryd.isAgg37 Tryd.sizeOf37 (vs := [iv x.f0.tet, iv x.f0.p.a0, iv x.f0.p.a1, iv x.f0.p.a2, iv x.f0.p.a3, iv x.f1.tet, iv x.f1.p.a0, iv x.f1.p.a1, iv x.f1.p.a2, iv x.f1.p.a3, iv x.f2.tet, iv x.f2.p.a0, iv x.f2.p.a1, iv x.f2.p.a2, iv x.f2.p.a3, iv x.f3.tet, iv x.f3.p.a0, iv x.f3.p.a1, iv x.f3.p.a2, iv x.f3.p.a3]) rfl (fun _ hs => (hga.sym hs).cell i x hx)) ?_
      refine RunG.still rfl rfl rfl rfl (Still.move rfl rfl) ?_
      refine RunG.still rfl rfl rfl rfl (Still.move rfl rfl) ?_
      refine RunG.still rfl rfl rfl rfl (Still.indexSliceN rfl rfl rfl Tryd.underlying31 Tryd.sizeOf37 (hgb.base (by omega)) (by omega)) ?_
      refine RunG.still rfl rfl rfl rfl (Still.loads rfl rfl Tryd.isAgg37 Tryd.sizeOf37 (vs := [iv y.f0.tet, iv y.f0.p.a0, iv y.f0.p.a1, iv y.f0.p.a2, iv y.f0.p.a3, iv y.f1.tet, iv y.f1.p.a0, iv y.f1.p.a1, iv y.f1.p.a2, iv y.f1.p.a3, iv y.f2.tet, iv y.f2.p.a0, iv y.f2.p.a1, iv y.f2.p.a2, iv y.f2.p.a3, iv y.f3.tet, iv y.f3.p.a0, iv y.f3.p.a1, iv y.f3.p.a2, iv y.f3.p.a3]) rfl (fun _ hs => (hgb.sym hs).cell i y hy)) ?_
      refine RunG.done ?_
      show RunL _ _ _ [_] _ _
      refine RunL.still rfl rfl rfl (Still.neqAgg rfl rfl rfl Tryd.eqGuardType37 (fun _ => eqT _ _ _ _)) ?_
      refine RunL.nil ?_
      refine Ends.then ?_
      refine RunC.cond rfl (fun h24 => ?_) (fun h24 => ?_)
      · have h24 : ¬ x = y := by simpa using h24
        refine RunC.seq ?_
        refine RunC.region ?_
        refine RunL.still rfl rfl rfl (Still.assign rfl rfl) ?_
        refine RunL.nil ?_
        refine Ends.then ?_
        refine RunC.ret ?_
        refine Ends.block_ret ?_
        refine Ends.then_ret ?_
        refine Ends.then_ret ?_
        refine Ends.block_ret ?_
        refine Ends.then_ret ?_
        refine Ends.leave (.inl rfl) (fun _ _ ok => results1 Tryd.results36 (Holds.tmp rfl) ok) (fun w2 hs => ?_)
        exact Ret.intro () trivial (congrArg Value.bool (decide_eq_false (fun e => h24 (by subst e; rw [hx] at hy; exact Option.some.inj hy))).symm) (HSub.nil _) hs
      · have h24 : x = y := by simpa using h24
        refine RunC.skip ?_
        refine Ends.block ?_
        refine Ends.then ?_
        refine RunC.region ?_
        refine RunL.still rfl rfl rfl (Still.add rfl rfl rfl (fits64 (by omega) (by omega))) ?_
        refine RunL.still rfl rfl rfl (Still.move rfl rfl) ?_
        refine RunL.nil ?_
        obtain rfl : x = y := h24
        refine Ends.again (i + 1) ?_ ?_ (Fr.Sub.app ?_ ?_) ?_
        · exact ⟨by omega, take_eq_succ htk hx hy⟩
        · show _ < _; omega
        · exact Fr.Sub.cons rfl (Fr.Sub.nil _)
        · exact Fr.Sub.cons rfl (Fr.Sub.cons rfl (Fr.Sub.cons rfl (Fr.Sub.nil _)))
        · exact HSub.nil _
    · have h14 := of_decide_eq_false h14
      obtain rfl : i = a.length := by omega
      refine RunC.exit ?_
      refine Ends.then_exit ?_
      refine Ends.then_exit ?_
      refine Ends.block_exit ?_
      refine Ends.then ?_
      refine RunC.seq ?_
      refine RunC.region ?_
      refine RunL.still rfl rfl rfl (Still.assign rfl rfl) ?_
      refine RunL.nil ?_
      refine Ends.then ?_
      refine RunC.ret ?_
      refine Ends.leave (.inl rfl) (fun _ _ ok => results1 Tryd.results36 (Holds.tmp rfl) ok) (fun w3 hs => ?_)
      exact Ret.intro () trivial (congrArg Value.bool (decide_eq_true (take_eq_all htk hl)).symm) (HSub.nil _) hs

theorem gl_Same (ba : Option Addr) (A : Addr) (ca : Nat) (a : Glu) (bb : Option Addr) (B : Addr) (cb : Nat) (b : Glu) (w : World) (hga : GluAt w ba A a) (hgb : GluAt w bb B b) : Gives Tryd.prog 21 #[gluV ba ca a, gluV bb cb b] w Nil (fun _ : Unit => True) (fun _ => .bool (decide (a = b))) (fun _ => []) := by
  refine fn_of_run (S := Nil) (args := [gluV ba ca a, gluV bb cb b]) (n := 10) (L := []) Tryd.func21 rfl Tryd.ntmps21 (Nat.le_of_ble_eq_true rfl) (Sym.nil _ _) ?_
  change RunC _ _ _ [(0, _), (1, _)] _
  refine RunC.seq ?_
  refine RunC.region ?_
  refine RunL.grows rfl rfl rfl (Grows.box rfl rfl) (fun b2 _ => ?_)
  refine RunL.grows rfl rfl rfl (Grows.box rfl rfl) (fun b3 _ => ?_)
  refine RunL.still rfl rfl rfl (Still.assign rfl rfl) ?_
  refine RunL.nil ?_
  refine Ends.then ?_
  refine RunC.seq ?_
  refine RunC.region ?_
  refine RunL.still rfl rfl rfl (Still.fieldAddrL (off := 0) (off' := 0) rfl rfl Tryd.underlying33 rfl Tryd.sizeOf31 rfl) ?_
  refine RunL.still rfl rfl rfl (Still.load rfl rfl Tryd.isAgg31 (fun _ hs => cell_nth (hs.at (i := 1) rfl) rfl)) ?_
  refine RunL.still rfl rfl rfl (Still.fieldAddrL (off := 0) (off' := 0) rfl rfl Tryd.underlying33 rfl Tryd.sizeOf31 rfl) ?_
  refine RunL.still rfl rfl rfl (Still.load rfl rfl Tryd.isAgg31 (fun _ hs => cell_nth (hs.at (i := 0) rfl) rfl)) ?_
  refine RunL.grows rfl rfl rfl (Grows.call (vs := #[_, _]) rfl rfl Tryd.call36 (fun w hs => gl_Equal ba A ca a bb B cb b w (hga.sym hs) (hgb.sym hs))) (fun _ _ => ?_)
  refine RunL.still rfl rfl rfl (Still.assign rfl rfl) ?_
  refine RunL.nil ?_
  refine Ends.then ?_
  refine RunC.ret ?_
  refine Ends.leave (.inl rfl) (fun _ _ ok => results1 Tryd.results21 (Holds.tmp rfl) ok) (fun w1 hs => ?_)
  exact Ret.intro () trivial rfl (HSub.nil _) hs

theorem rf_SameInts (v u : Value) (xs ys : List Int) (w : World) (hv : Shape v xs.length) (hc : Cells w (vaddr v) (ints xs)) (hl : xs.length ≤ 9223372036854775807) (hu : Shape u ys.length) (hd : Cells w (vaddr u) (ints ys)) (hl2 : ys.length ≤ 9223372036854775807) : Gives Tryd.prog 19 #[v, u] w Nil (fun _ : Unit => True) (fun _ => .bool (decide (xs = ys))) (fun _ => []) := by
  refine fn_of_run (S := Nil) (args := [v, u]) (n := 26) (L := []) Tryd.func19 rfl Tryd.ntmps19 (Nat.le_of_ble_eq_true rfl) (Sym.nil _ _) ?_
  change RunC _ _ _ [(0, _), (1, _)] _
  refine RunC.seq ?_
  refine RunC.region ?_
  refine RunL.still rfl rfl rfl (Still.assign rfl rfl) ?_
  refine RunL.nil ?_
  refine Ends.then ?_
  refine RunC.seq ?_
  refine RunC.seq ?_
  refine RunC.region ?_
  refine RunL.still rfl rfl rfl (Still.move rfl rfl) ?_
  refine RunL.still rfl rfl rfl (Still.lenV rfl rfl Tryd.underlying41 (hv)) ?_
  refine RunL.still rfl rfl rfl (Still.move rfl rfl) ?_
  refine RunL.still rfl rfl rfl (Still.lenV rfl rfl Tryd.underlying41 (hu)) ?_
  refine RunL.still rfl rfl rfl (Still.neq rfl rfl rfl) ?_
  refine RunL.nil ?_
  refine Ends.then ?_
  refine RunC.cond rfl (fun h10 => ?_) (fun h10 => ?_)
  · have h10 := of_decide_eq_true h10
    refine RunC.seq ?_
    refine RunC.region ?_
    refine RunL.still rfl rfl rfl (Still.assign rfl rfl) ?_
    refine RunL.nil ?_
    refine Ends.then ?_
    refine RunC.ret ?_
    refine Ends.then_ret ?_
    refine Ends.leave (.inl rfl) (fun _ _ ok => results1 Tryd.results19 (Holds.tmp rfl) ok) (fun w1 hs => ?_)
    exact Ret.intro () trivial (congrArg Value.bool (decide_eq_false (fun e => h10 (by rw [e]))).symm) (HSub.nil _) hs
  · have h10 := of_decide_eq_false h10
    have hl : xs.length = ys.length := by omega
    refine RunC.skip ?_
    refine Ends.then ?_
    refine RunC.seq ?_
    refine RunC.seq ?_
    refine RunC.region ?_
    refine RunL.still rfl rfl rfl (Still.assign rfl rfl) ?_
    refine RunL.nil ?_
    refine Ends.then ?_
    refine RunC.block ?_
    refine RunC.loop2 (γ := Nat) (keep := [(0, _), (1, _)]) (hkeep := []) (fun i => i ≤ xs.length ∧ xs.take i = ys.take i) (fun i => xs.length - i) (fun i => [(5, iv i)]) (fun i => []) 0 ⟨by omega, rfl⟩ (Fr.Sub.cons rfl (Fr.Sub.nil _)) (Fr.Sub.cons rfl (Fr.Sub.cons rfl (Fr.Sub.nil _))) (HSub.nil _) ?_
    rintro i ⟨hi, htk⟩
    refine RunC.seq ?_
    refine RunC.seq ?_
    refine RunC.region ?_
    refine RunL.still rfl rfl rfl (Still.move rfl rfl) ?_
    refine RunL.still rfl rfl rfl (Still.move rfl rfl) ?_
    refine RunL.still rfl rfl rfl (Still.lenV rfl rfl Tryd.underlying41 (hv)) ?_
    refine RunL.still rfl rfl rfl (Still.lss rfl rfl rfl) ?_
    refine RunL.nil ?_
    refine Ends.then ?_
    refine RunC.cond rfl (fun h14 => ?_) (fun h14 => ?_)
    · have h14 := of_decide_eq_true h14
      obtain ⟨x, hx⟩ := get_of_lt (l := xs) (i := i) (by omega)
      obtain ⟨y, hy⟩ := get_of_lt (l := ys) (i := i) (by omega)
      refine RunC.skip ?_
      refine Ends.then ?_
      refine RunC.seq ?_
      refine RunC.block ?_
      refine RunC.seq ?_
      refine RunC.draw 8 (.still 0 (.still 1 (.still 2 (.still 3 (.still 4 (.still 5 (.still 6 (.still 7 .done)))))))) (by kernel_rfl) (by kernel_rfl) ?_
      refine RunG.still rfl rfl rfl rfl (Still.move rfl rfl) ?_
      refine RunG.still rfl rfl rfl rfl (Still.move rfl rfl) ?_
      refine RunG.still rfl rfl rfl rfl (Still.indexV _ rfl rfl rfl Tryd.underlying41 Tryd.sizeOf3 (hv) (rfl) (by omega)) ?_
      refine RunG.still rfl rfl rfl rfl (Still.load rfl rfl Tryd.isAgg3 (fun _ hs => cells_at (Cells.base0 hc hs) (ints_get hx))) ?_
      refine RunG.still rfl rfl rfl rfl (Still.move rfl rfl) ?_
      refine RunG.still rfl rfl rfl rfl (Still.move rfl rfl) ?_
      refine RunG.still rfl rfl rfl rfl (Still.indexV _ rfl rfl rfl Tryd.underlying41 Tryd.sizeOf3 (hu) (rfl) (by omega)) ?_
      refine RunG.still rfl rfl rfl rfl (Still.load rfl rfl Tryd.isAgg3 (fun _ hs => cells_at (Cells.base0 hd hs) (ints_get hy))) ?_
      refine RunG.done ?_
      show RunL _ _ _ [_] _ _
      refine RunL.still rfl rfl rfl (Still.neq rfl rfl rfl) ?_
      refine RunL.nil ?_
      refine Ends.then ?_
      refine RunC.cond rfl (fun h25 => ?_) (fun h25 => ?_)
      · have h25 := of_decide_eq_true h25
        refine RunC.seq ?_
        refine RunC.region ?_
        refine RunL.still rfl rfl rfl (Still.assign rfl rfl) ?_
        refine RunL.nil ?_
        refine Ends.then ?_
        refine RunC.ret ?_
        refine Ends.block_ret ?_
        refine Ends.then_ret ?_
        refine Ends.then_ret ?_
        refine Ends.block_ret ?_
        refine Ends.then_ret ?_
        refine Ends.leave (.inl rfl) (fun _ _ ok => results1 Tryd.results19 (Holds.tmp rfl) ok) (fun w2 hs => ?_)
        exact Ret.intro () trivial (congrArg Value.bool (decide_eq_false (fun e => h25 (by subst e; rw [hx] at hy; exact Option.some.inj hy))).symm) (HSub.nil _) hs
      · have h25 := of_decide_eq_false h25
        refine RunC.skip ?_
        refine Ends.block ?_
        refine Ends.then ?_
        refine RunC.region ?_
        refine RunL.still rfl rfl rfl (Still.move rfl rfl) ?_
        refine RunL.still rfl rfl rfl (Still.add rfl rfl rfl (fits64 (by omega) (by omega))) ?_
        refine RunL.still rfl rfl rfl (Still.assign rfl rfl) ?_
        refine RunL.nil ?_
        obtain rfl : x = y := Decidable.not_not.1 h25
        refine Ends.again (i + 1) ?_ ?_ (Fr.Sub.app ?_ ?_) ?_
        · exact ⟨by omega, take_eq_succ htk hx hy⟩
        · show _ < _; omega
        · exact Fr.Sub.cons rfl (Fr.Sub.nil _)
        · exact Fr.Sub.cons rfl (Fr.Sub.cons rfl (Fr.Sub.nil _))
        · exact HSub.nil _
    · have h14 := of_decide_eq_false h14
      obtain rfl : i = xs.length := by omega
      refine RunC.exit ?_
      refine Ends.then_exit ?_
      refine Ends.then_exit ?_
      refine Ends.block_exit ?_
      refine Ends.then ?_
      refine RunC.seq ?_
      refine RunC.region ?_
      refine RunL.still rfl rfl rfl (Still.assign rfl rfl) ?_
      refine RunL.nil ?_
      refine Ends.then ?_
      refine RunC.ret ?_
      refine Ends.leave (.inl rfl) (fun _ _ ok => results1 Tryd.results19 (Holds.tmp rfl) ok) (fun w3 hs => ?_)
      exact Ret.intro () trivial (congrArg Value.bool (decide_eq_true (take_eq_all htk hl)).symm) (HSub.nil _) hs

end Go.Proofs
/- Parts and orientations of gluings: contracts of both texts. -/
namespace Go.Proofs
open Go Go.V
set_option maxRecDepth 20000
end Go.Proofs
/- Orientations of gluings: contracts of both texts. -/
namespace Go.Proofs
open Go Go.V
set_option maxRecDepth 20000
theorem gl_Orient (base : Option Addr) (A : Addr) (cap : Nat) (g : Glu) (w : World) (hg : GluAt w base A g) (hok : okG g = true) : Gives Tryd.prog 16 #[gluV base cap g] w Nil (fun _ : Nat => True) (fun b => oriV g b) (fun b => oriH g b) := by
  have hlen := hg.len
  have h1000 := okG_len hok
  refine fn_of_run (S := Nil) (args := [gluV base cap g]) (n := 95) (L := []) Tryd.func16 rfl Tryd.ntmps16 (Nat.le_of_ble_eq_true rfl) (Sym.nil _ _) ?_
  change RunC _ _ _ [(0, _)] _
  refine RunC.seq ?_
  refine RunC.region ?_
  refine RunL.grows rfl rfl rfl (Grows.box rfl rfl) (fun b1 _ => ?_)
  refine RunL.still rfl rfl rfl (Still.assign rfl rfl) ?_
  refine RunL.still rfl rfl rfl (Still.assign rfl rfl) ?_
  refine RunL.still rfl rfl rfl (Still.assign rfl rfl) ?_
  refine RunL.nil ?_
  refine Ends.then ?_
  refine RunC.seq ?_
  refine RunC.seq ?_
  refine RunC.region ?_
  refine RunL.still rfl rfl rfl (Still.loads rfl rfl Tryd.isAgg33 Tryd.sizeOf33 (vs := [_]) rfl (fun _ hs => cells_nth (hs.at (i := 0) rfl) ⟨rfl, trivial⟩)) ?_
  refine RunL.grows rfl rfl rfl (Grows.call (vs := #[_]) rfl rfl Tryd.call22 (fun w hs => gl_Check base A cap g w (hg.sym hs))) (fun _ _ => ?_)
  refine RunL.still rfl rfl rfl (Still.assign rfl rfl) ?_
  refine RunL.nil ?_
  refine Ends.then ?_
  refine RunC.seq ?_
  refine RunC.region ?_
  refine RunL.still rfl rfl rfl (Still.move rfl rfl) ?_
  refine RunL.still rfl rfl rfl (Still.neq rfl rfl rfl) ?_
  refine RunL.nil ?_
  refine Ends.then ?_
  refine RunC.cond rfl (fun h16 => ?_) (fun h16 => ?_)
  · have h16 := of_decide_eq_true h16
    exact absurd (chkG_ok hok) h16
  · have h16 := of_decide_eq_false h16
    refine RunC.skip ?_
    refine Ends.then ?_
    refine RunC.seq ?_
    refine RunC.region ?_
    refine RunL.still rfl rfl rfl (Still.fieldAddrL (off := 0) (off' := 0) rfl rfl Tryd.underlying33 rfl Tryd.sizeOf31 rfl) ?_
    refine RunL.still rfl rfl rfl (Still.load rfl rfl Tryd.isAgg31 (fun _ hs => cell_nth (hs.at (i := 0) rfl) rfl)) ?_
    refine RunL.still rfl rfl rfl (Still.lenSlice rfl rfl Tryd.underlying31) ?_
    refine RunL.grows rfl rfl rfl (Grows.make (n := g.length) (xs := (ints (List.replicate g.length 0))) rfl rfl rfl Tryd.underlying41 (by kernel_rfl : (_ : Option _) = some (some (.int .i64 0), 1, 8)) rfl (by omega) (by omega) (zeros_one _ _ |>.trans (ints_replicate _ _))) (fun b21 _ => ?_)
    refine RunL.still rfl rfl rfl (Still.assign rfl rfl) ?_
    refine RunL.nil ?_
    refine Ends.then ?_
    refine RunC.seq ?_
    refine RunC.seq ?_
    refine RunC.region ?_
    refine RunL.still rfl rfl rfl (Still.move rfl rfl) ?_
    refine RunL.still rfl rfl rfl (Still.lenOwn rfl rfl Tryd.underlying41 (fun _ hs => hs.own (i := 0) rfl)) ?_
    refine RunL.still rfl rfl rfl (Still.move rfl rfl) ?_
    refine RunL.nil ?_
    refine Ends.then ?_
    refine RunC.block ?_
    refine RunC.loop2 (γ := Nat × List Int) (keep := [(1, _), (6, _), (23, _)]) (hkeep := [_]) (fun (t, out) => t ≤ g.length ∧ oAll g t = some out) (fun (t, out) => g.length - t) (fun (t, out) => [(24, iv t)]) (fun (t, out) => [HL.own 3 1 (.slice (some ⟨b21, 0, none⟩) g.length g.length) g.length (ints out)]) (0, List.replicate g.length 0) ⟨by omega, rfl⟩ (Fr.Sub.cons rfl (Fr.Sub.nil _)) (Fr.Sub.cons rfl (Fr.Sub.cons rfl (Fr.Sub.cons rfl (Fr.Sub.nil _)))) (HSub.pick 0 rfl (HSub.pick 0 rfl (HSub.nil _))) ?_
    rintro ⟨t, out⟩ ⟨ht, hA⟩
    have ht : t ≤ g.length := ht
    have hA : oAll g t = some out := hA
    have hOA := oAll_ok hok t ht hA
    have hol := hOA.len
    refine RunC.seq ?_
    refine RunC.region ?_
    refine RunL.still rfl rfl rfl (Still.lss rfl rfl rfl) ?_
    refine RunL.nil ?_
    refine Ends.then ?_
    refine RunC.seq ?_
    refine RunC.cond rfl (fun h25 => ?_) (fun h25 => ?_)
    · have h25 := of_decide_eq_true h25
      have htN : t < g.length := by omega
      refine RunC.skip ?_
      refine Ends.then ?_
      refine RunC.seq ?_
      refine RunC.block ?_
      refine RunC.seq ?_
      refine RunC.region ?_
      refine RunL.still rfl rfl rfl (Still.move rfl rfl) ?_
      refine RunL.still rfl rfl rfl (Still.assign rfl rfl) ?_
      refine RunL.nil ?_
      refine Ends.then ?_
      refine RunC.seq ?_
      refine RunC.seq ?_
      refine RunC.region ?_
      refine RunL.still rfl rfl rfl (Still.move rfl rfl) ?_
      refine RunL.still rfl rfl rfl (Still.move rfl rfl) ?_
      refine RunL.still rfl rfl rfl (Still.indexOwn rfl rfl rfl Tryd.underlying41 Tryd.sizeOf3 (fun _ hs => hs.own (i := 0) rfl) (by omega)) ?_
      refine RunL.still rfl rfl rfl (Still.load rfl rfl Tryd.isAgg3 (fun w hs => own_at (hs.own (i := 0) rfl) (ints_get (getD_get' (by omega))))) ?_
      refine RunL.still rfl rfl rfl (Still.neq rfl rfl rfl) ?_
      refine RunL.nil ?_
      refine Ends.then ?_
      refine RunC.cond rfl (fun h31 => ?_) (fun h31 => ?_)
      · have h31 := of_decide_eq_true h31
        refine RunC.exit ?_
        refine Ends.then_exit ?_
        refine Ends.block_exit ?_
        refine Ends.then ?_
        refine RunC.region ?_
        refine RunL.still rfl rfl rfl (Still.add rfl rfl rfl (fits64 (by omega) (by omega))) ?_
        refine RunL.still rfl rfl rfl (Still.move rfl rfl) ?_
        refine RunL.nil ?_
        refine Ends.again (t + 1, out) ?_ ?_ (Fr.Sub.app ?_ ?_) ?_
        · exact ⟨by show t + 1 ≤ _; omega, oAll_keep hA h31⟩
        · show _ - (t + 1) < _ - t; omega
        · exact Fr.Sub.cons rfl (Fr.Sub.nil _)
        · exact Fr.Sub.cons rfl (Fr.Sub.cons rfl (Fr.Sub.cons rfl (Fr.Sub.nil _)))
        · exact HSub.pick 0 rfl (HSub.pick 0 rfl (HSub.nil _))
      · have h31 := of_decide_eq_false h31
        have hge := h31
        refine RunC.skip ?_
        refine Ends.then ?_
        refine RunC.seq ?_
        refine RunC.region ?_
        refine RunL.still rfl rfl rfl (Still.move rfl rfl) ?_
        refine RunL.still rfl rfl rfl (Still.move rfl rfl) ?_
        refine RunL.still rfl rfl rfl (Still.indexOwn rfl rfl rfl Tryd.underlying41 Tryd.sizeOf3 (fun _ hs => hs.own (i := 0) rfl) (by omega)) ?_
        refine RunL.does0 rfl rfl (Does.storeOwn1 (xs' := (ints (out.set t 1))) rfl rfl rfl rfl (i := 0) rfl Tryd.sizeOf3 rfl (by simp; omega) (ints_set _ _ _)) (fun _ _ => ?_)
        refine RunL.nil ?_
        refine Ends.then ?_
        refine RunC.seq ?_
        refine RunC.region ?_
        refine RunL.still rfl rfl rfl (Still.move rfl rfl) ?_
        refine RunL.grows rfl rfl rfl (Grows.slice1 rfl rfl Tryd.underlying41 Tryd.sizeOf3 rfl Tryd.zeroValue3 (by decide)) (fun b36 _ => ?_)
        refine RunL.conv (fun _ hs => Sym.obj_own (k := 1) (n := 1) hs rfl (by omega)) ?_
        refine RunL.still rfl rfl rfl (Still.assign rfl rfl) ?_
        refine RunL.nil ?_
        refine Ends.then ?_
        refine RunC.seq ?_
        refine RunC.region ?_
        refine RunL.still rfl rfl rfl (Still.assign rfl rfl) ?_
        refine RunL.nil ?_
        refine Ends.then ?_
        refine RunC.block ?_
        refine RunC.loop2 (γ := Value × BSt × Nat × Nat) (keep := [(1, _), (6, _), (23, _), (24, _)]) (hkeep := [_]) (fun (v, s, i, k) => OSt g s ∧ oBfs g k i s = oBfs g g.length 0 (out.set t 1, [t]) ∧ i + k = g.length) (fun (v, s, i, k) => k) (fun (v, s, i, k) => [(8, v), (9, iv i)]) (fun (v, s, i, k) => [HL.own 3 1 (.slice (some ⟨b21, 0, none⟩) g.length g.length) g.length (ints s.1), HL.own 3 1 v s.2.length (nints s.2)]) (.slice (some ⟨b36, 0, none⟩) 1 1, (out.set t 1, [t]), 0, g.length) ⟨OSt.start hOA (by omega) (Decidable.not_not.1 hge), rfl, by omega⟩ (Fr.Sub.cons rfl (Fr.Sub.cons rfl (Fr.Sub.nil _))) (Fr.Sub.cons rfl (Fr.Sub.cons rfl (Fr.Sub.cons rfl (Fr.Sub.cons rfl (Fr.Sub.nil _))))) (HSub.pick 1 rfl (HSub.pick 0 (by rfl) (HSub.pick 0 rfl (HSub.nil _)))) ?_
        rintro ⟨v, s, i, k⟩ ⟨hO, hM, hik⟩
        have hO : OSt g s := hO
        have hik : i + k = g.length := hik
        have hroom := hO.room
        have hsl := hO.len
        refine RunC.seq ?_
        refine RunC.seq ?_
        refine RunC.region ?_
        refine RunL.still rfl rfl rfl (Still.move rfl rfl) ?_
        refine RunL.still rfl rfl rfl (Still.move rfl rfl) ?_
        refine RunL.still rfl rfl rfl (Still.lenOwn rfl rfl Tryd.underlying41 (fun _ hs => hs.own (i := 1) rfl)) ?_
        refine RunL.still rfl rfl rfl (Still.lss rfl rfl rfl) ?_
        refine RunL.nil ?_
        refine Ends.then ?_
        refine RunC.cond rfl (fun h40 => ?_) (fun h40 => ?_)
        · have h40 := of_decide_eq_true h40
          obtain ⟨u, hu⟩ := get_of_lt (l := s.2) (i := i) (by omega)
          have huN : u < g.length := hO.mem u (List.mem_of_getElem? hu)
          have hzu := hO.set u (List.mem_of_getElem? hu)
          refine RunC.skip ?_
          refine Ends.then ?_
          refine RunC.seq ?_
          refine RunC.block ?_
          refine RunC.seq ?_
          refine RunC.drawY (.pure 0 (.pure 2 (.pure 3 (.pure 8 (.two 1 (.one 4 (.one 5 (.pure 6 (.one 7 .done)))) 4 (.two 1 (.one 5 (.pure 6 (.one 7 .done))) 5 (.one 1 (.pure 6 (.one 7 .done))))))))) (by kernel_rfl) (by kernel_rfl) ?_
          refine RunY.pure rfl rfl rfl rfl (fun _ => Still.fieldAddrL (off := 0) (off' := 0) rfl rfl Tryd.underlying33 rfl Tryd.sizeOf31 rfl) ?_
          refine RunY.pure rfl rfl rfl rfl (fun _ => Still.move rfl rfl) ?_
          refine RunY.pure rfl rfl rfl rfl (fun _ => Still.move rfl rfl) ?_
          refine RunY.pure rfl rfl rfl rfl (fun _ => Still.move rfl rfl) ?_
          refine RunY.two ?_ ?_
          ·
            refine RunY.still rfl rfl rfl rfl (Still.load rfl rfl Tryd.isAgg31 (fun _ hs => cell_nth (hs.at (i := 2) rfl) rfl)) ?_
            refine RunY.still rfl rfl rfl rfl (Still.indexOwn rfl rfl rfl Tryd.underlying41 Tryd.sizeOf3 (fun _ hs => hs.own (i := 1) rfl) (by omega)) ?_
            refine RunY.still rfl rfl rfl rfl (Still.load rfl rfl Tryd.isAgg3 (fun w hs => own_at (hs.own (i := 1) rfl) (nints_get hu))) ?_
            refine RunY.pure rfl rfl rfl rfl (fun _ => Still.indexSliceN rfl rfl rfl Tryd.underlying31 Tryd.sizeOf37 (hg.base (by omega)) (by omega)) ?_
            refine RunY.still rfl rfl rfl rfl (Still.loads rfl rfl Tryd.isAgg37 Tryd.sizeOf37 (vs := [iv (tAt g u).f0.tet, iv (tAt g u).f0.p.a0, iv (tAt g u).f0.p.a1, iv (tAt g u).f0.p.a2, iv (tAt g u).f0.p.a3, iv (tAt g u).f1.tet, iv (tAt g u).f1.p.a0, iv (tAt g u).f1.p.a1, iv (tAt g u).f1.p.a2, iv (tAt g u).f1.p.a3, iv (tAt g u).f2.tet, iv (tAt g u).f2.p.a0, iv (tAt g u).f2.p.a1, iv (tAt g u).f2.p.a2, iv (tAt g u).f2.p.a3, iv (tAt g u).f3.tet, iv (tAt g u).f3.p.a0, iv (tAt g u).f3.p.a1, iv (tAt g u).f3.p.a2, iv (tAt g u).f3.p.a3]) rfl (fun _ hs => (hg.sym hs).cell u _ (tAt_get huN))) ?_
            refine RunY.done ?_
            refine Ends.then ?_
            refine RunC.block ?_
            refine RunC.loop2 (γ := Value × Nat × BSt) (keep := [(1, _), (6, _), (9, _), (23, _), (24, _), (50, _)]) (hkeep := [_]) (fun (v, f, q) => f ≤ 4 ∧ oTo g u s f = some q) (fun (v, f, q) => 4 - f) (fun (v, f, q) => [(8, v), (51, iv f)]) (fun (v, f, q) => [HL.own 3 1 (.slice (some ⟨b21, 0, none⟩) g.length g.length) g.length (ints q.1), HL.own 3 1 v q.2.length (nints q.2)]) (v, 0, s) ⟨Nat.zero_le 4, rfl⟩ (Fr.Sub.cons rfl (Fr.Sub.cons rfl (Fr.Sub.nil _))) (Fr.Sub.cons rfl (Fr.Sub.cons rfl (Fr.Sub.cons rfl (Fr.Sub.cons rfl (Fr.Sub.cons rfl (Fr.Sub.cons rfl (Fr.Sub.nil _))))))) (HSub.pick 0 rfl (HSub.pick 0 rfl (HSub.pick 0 rfl (HSub.nil _)))) ?_
            rintro ⟨v, f, q⟩ ⟨hf, hT⟩
            have hf : f ≤ 4 := hf
            have hT : oTo g u s f = some q := hT
            obtain ⟨hO4, hz4⟩ := oTo_ok hok huN hO hzu f hf hT
            have hq4 := oTo_pre hu f hT
            have hi4 := (List.getElem?_eq_some_iff.1 hq4).1
            have hr4 := hO4.room
            have hl4 := hO4.len
            refine RunC.seq ?_
            refine RunC.region ?_
            refine RunL.still rfl rfl rfl (Still.lss rfl rfl rfl) ?_
            refine RunL.nil ?_
            refine Ends.then ?_
            refine RunC.seq ?_
            refine RunC.cond rfl (fun h52 => ?_) (fun h52 => ?_)
            · have h52 := of_decide_eq_true h52
              have hf4 : f < 4 := by omega
              refine RunC.skip ?_
              refine Ends.then ?_
              refine RunC.seq ?_
              refine RunC.block ?_
              refine RunC.seq ?_
              refine RunC.region ?_
              refine RunL.still rfl rfl rfl (Still.indexAgg rfl rfl rfl Tryd.underlying37 Tryd.sizeOf36 Tryd.isAgg36 ⟨by omega, by omega⟩ (ttV_fAt g u hf4)) ?_
              refine RunL.grows rfl rfl rfl (Grows.alloc rfl Tryd.zeroValue36) (fun b11 _ => ?_)
              refine RunL.does0 rfl rfl (Does.store rfl rfl rfl (i := 0) rfl Tryd.sizeOf36 rfl (rfl) rfl) (fun _ _ => ?_)
              refine RunL.nil ?_
              refine Ends.then ?_
              refine RunC.seq ?_
              refine RunC.seq ?_
              refine RunC.region ?_
              refine RunL.still rfl rfl rfl (Still.fieldAddrL (off := 0) (off' := 0) rfl rfl Tryd.underlying36 rfl Tryd.sizeOf3 rfl) ?_
              refine RunL.still rfl rfl rfl (Still.load rfl rfl Tryd.isAgg3 (fun _ hs => cell_nth (hs.at (i := 0) rfl) rfl)) ?_
              refine RunL.still rfl rfl rfl (Still.lss rfl rfl rfl) ?_
              refine RunL.nil ?_
              refine Ends.then ?_
              refine RunC.cond rfl (fun h56 => ?_) (fun h56 => ?_)
              · have h56 := of_decide_eq_true h56
                refine RunC.exit ?_
                refine Ends.then_exit ?_
                refine Ends.block_exit ?_
                refine Ends.then ?_
                refine RunC.region ?_
                refine RunL.still rfl rfl rfl (Still.add rfl rfl rfl (fits64 (by omega) (by omega))) ?_
                refine RunL.still rfl rfl rfl (Still.move rfl rfl) ?_
                refine RunL.nil ?_
                refine Ends.again (v, f + 1, q) ?_ ?_ (Fr.Sub.app ?_ ?_) ?_
                · exact ⟨by show f + 1 ≤ 4; omega, oTo_snoc hT (oFace_free h56)⟩
                · show 4 - (f + 1) < 4 - f; omega
                · exact Fr.Sub.cons rfl (Fr.Sub.cons rfl (Fr.Sub.nil _))
                · exact Fr.Sub.cons rfl (Fr.Sub.cons rfl (Fr.Sub.cons rfl (Fr.Sub.cons rfl (Fr.Sub.cons rfl (Fr.Sub.cons rfl (Fr.Sub.nil _))))))
                · exact HSub.pick 1 rfl (HSub.pick 1 rfl (HSub.pick 1 rfl (HSub.nil _)))
              · have h56 := of_decide_eq_false h56
                have hF := okG_glued hok huN hf4 (by omega)
                have hFl := hF.lo
                have hFh := hF.hi
                have hw1 := want_one hO4 (fAt g u f).p hz4
                have hs1 := sgnP_one (fAt g u f).p
                refine RunC.skip ?_
                refine Ends.then ?_
                refine RunC.seq ?_
                refine RunC.draw 12 (.still 0 (.still 1 (.still 4 (.still 5 (.still 6 (.still 7 (.still 8 (.still 9 (.still 10 (.one 2 (.still 3 (.still 11 .done)))))))))))) (by kernel_rfl) (by kernel_rfl) ?_
                refine RunG.still rfl rfl rfl rfl (Still.fieldAddrL (off := 0) (off' := 1) rfl rfl Tryd.underlying36 rfl Tryd.sizeOf23 rfl) ?_
                refine RunG.still rfl rfl rfl rfl (Still.loads rfl rfl Tryd.isAgg23 Tryd.sizeOf23 (vs := [_, _, _, _]) rfl (fun _ hs => cells_nth (hs.at (i := 0) rfl) ⟨rfl, ⟨rfl, ⟨rfl, ⟨rfl, trivial⟩⟩⟩⟩)) ?_
                refine RunG.still rfl rfl rfl rfl (Still.move rfl rfl) ?_
                refine RunG.still rfl rfl rfl rfl (Still.move rfl rfl) ?_
                refine RunG.still rfl rfl rfl rfl (Still.move rfl rfl) ?_
                refine RunG.still rfl rfl rfl rfl (Still.indexOwn rfl rfl rfl Tryd.underlying41 Tryd.sizeOf3 (fun _ hs => hs.own (i := 2) rfl) (by omega)) ?_
                refine RunG.still rfl rfl rfl rfl (Still.load rfl rfl Tryd.isAgg3 (fun w hs => own_at (hs.own (i := 2) rfl) (nints_get hq4))) ?_
                refine RunG.still rfl rfl rfl rfl (Still.indexOwn rfl rfl rfl Tryd.underlying41 Tryd.sizeOf3 (fun _ hs => hs.own (i := 1) rfl) (by omega)) ?_
                refine RunG.still rfl rfl rfl rfl (Still.load rfl rfl Tryd.isAgg3 (fun w hs => own_at (hs.own (i := 1) rfl) (ints_get (getD_get' (by omega))))) ?_
                refine RunG.grows rfl rfl rfl rfl (Grows.call (vs := #[_]) rfl rfl Tryd.call25 (fun w hs => gl_sign _ w)) (fun _ _ => ?_)
                refine RunG.still rfl rfl rfl rfl (Still.neg rfl rfl (fits64 (by omega) (by omega))) ?_
                refine RunG.still rfl rfl rfl rfl (Still.mul rfl rfl rfl (fits64 (by omega) (by omega))) ?_
                refine RunG.done ?_
                show RunL _ _ _ [_] _ _
                refine RunL.still rfl rfl rfl (Still.assign rfl rfl) ?_
                refine RunL.nil ?_
                refine Ends.then ?_
                refine RunC.seq ?_
                refine RunC.seq ?_
                refine RunC.region ?_
                refine RunL.still rfl rfl rfl (Still.move rfl rfl) ?_
                refine RunL.still rfl rfl rfl (Still.fieldAddrL (off := 0) (off' := 0) rfl rfl Tryd.underlying36 rfl Tryd.sizeOf3 rfl) ?_
                refine RunL.still rfl rfl rfl (Still.load rfl rfl Tryd.isAgg3 (fun _ hs => cell_nth (hs.at (i := 0) rfl) rfl)) ?_
                refine RunL.still rfl rfl rfl (Still.indexOwnI (m := (fAt g u f).tet.toNat) rfl rfl rfl Tryd.underlying41 Tryd.sizeOf3 (fun _ hs => hs.own (i := 1) rfl) (by omega) (by omega)) ?_
                refine RunL.still rfl rfl rfl (Still.load rfl rfl Tryd.isAgg3 (fun w hs => own_at (hs.own (i := 1) rfl) (ints_get (getD_get' (by omega))))) ?_
                refine RunL.still rfl rfl rfl (Still.eql rfl rfl rfl) ?_
                refine RunL.nil ?_
                refine Ends.then ?_
                refine RunC.cond rfl (fun h74 => ?_) (fun h74 => ?_)
                · have h74 := of_decide_eq_true h74
                  refine RunC.seq ?_
                  refine RunC.region ?_
                  refine RunL.still rfl rfl rfl (Still.move rfl rfl) ?_
                  refine RunL.still rfl rfl rfl (Still.fieldAddrL (off := 0) (off' := 0) rfl rfl Tryd.underlying36 rfl Tryd.sizeOf3 rfl) ?_
                  refine RunL.still rfl rfl rfl (Still.load rfl rfl Tryd.isAgg3 (fun _ hs => cell_nth (hs.at (i := 0) rfl) rfl)) ?_
                  refine RunL.still rfl rfl rfl (Still.move rfl rfl) ?_
                  refine RunL.still rfl rfl rfl (Still.indexOwnI (m := (fAt g u f).tet.toNat) rfl rfl rfl Tryd.underlying41 Tryd.sizeOf3 (fun _ hs => hs.own (i := 1) rfl) (by omega) (by omega)) ?_
                  refine RunL.does0 rfl rfl (Does.storeOwn1 (xs' := (ints (q.1.set (fAt g u f).tet.toNat (-sgnP (fAt g u f).p * q.1.getD u 0)))) rfl rfl rfl rfl (i := 1) rfl Tryd.sizeOf3 rfl (by simp; omega) (ints_set _ _ _)) (fun _ _ => ?_)
                  refine RunL.nil ?_
                  refine Ends.then ?_
                  refine RunC.region ?_
                  refine RunL.still rfl rfl rfl (Still.move rfl rfl) ?_
                  refine RunL.still rfl rfl rfl (Still.fieldAddrL (off := 0) (off' := 0) rfl rfl Tryd.underlying36 rfl Tryd.sizeOf3 rfl) ?_
                  refine RunL.still rfl rfl rfl (Still.load rfl rfl Tryd.isAgg3 (fun _ hs => cell_nth (hs.at (i := 0) rfl) rfl)) ?_
                  refine RunL.grows rfl rfl rfl (Grows.slice1 rfl rfl Tryd.underlying41 Tryd.sizeOf3 rfl Tryd.zeroValue3 (by decide)) (fun b83 _ => ?_)
                  refine RunL.does rfl rfl rfl (Does.appendTo (n' := (q.2.length + 1)) (xs' := (nints (q.2 ++ [(fAt g u f).tet.toNat]))) (news := [_]) rfl rfl rfl rfl (i := 3) rfl Tryd.underlying41 (by kernel_rfl : (_ : Option _) = some (some (.int .i64 0), 1, 8)) rfl rfl (fun _ hs => cells_nth (hs.at (i := 0) rfl) ⟨rfl, trivial⟩) rfl rfl (by omega) (by omega) (rfl) ((congrArg (fun z => _ ++ [iv z]) (by omega)).trans (nints_snoc _ _))) (fun v84 hv84 => ?_)
                  refine RunL.still rfl rfl rfl (Still.assign rfl rfl) ?_
                  refine RunL.nil ?_
                  refine Ends.then ?_
                  refine RunC.seq ?_
                  refine RunC.region ?_
                  refine RunL.still rfl rfl rfl (Still.move rfl rfl) ?_
                  refine RunL.still rfl rfl rfl (Still.fieldAddrL (off := 0) (off' := 0) rfl rfl Tryd.underlying36 rfl Tryd.sizeOf3 rfl) ?_
                  refine RunL.still rfl rfl rfl (Still.load rfl rfl Tryd.isAgg3 (fun _ hs => cell_nth (hs.at (i := 1) rfl) rfl)) ?_
                  refine RunL.still rfl rfl rfl (Still.indexOwnI (m := (fAt g u f).tet.toNat) rfl rfl rfl Tryd.underlying41 Tryd.sizeOf3 (fun _ hs => hs.own (i := 2) rfl) (by omega) (by omega)) ?_
                  refine RunL.still rfl rfl rfl (Still.load rfl rfl Tryd.isAgg3 (fun w hs => own_at (hs.own (i := 2) rfl) (ints_get (getD_get' (by first | omega | (simp; omega)))))) ?_
                  refine RunL.still rfl rfl rfl (Still.move rfl rfl) ?_
                  refine RunL.still rfl rfl rfl (Still.neq rfl rfl rfl) ?_
                  refine RunL.nil ?_
                  refine Ends.then ?_
                  refine RunC.cond rfl (fun h91 => ?_) (fun h91 => ?_)
                  · have h91 := of_decide_eq_true h91
                    refine RunC.seq ?_
                    refine RunC.region ?_
                    refine RunL.still rfl rfl rfl (Still.assign rfl rfl) ?_
                    refine RunL.still rfl rfl rfl (Still.assign rfl rfl) ?_
                    refine RunL.still rfl rfl rfl (Still.assign rfl rfl) ?_
                    refine RunL.nil ?_
                    refine Ends.then ?_
                    refine RunC.ret ?_
                    refine Ends.block_ret ?_
                    refine Ends.then_ret ?_
                    refine Ends.then_ret ?_
                    refine Ends.block_ret ?_
                    refine Ends.block_ret ?_
                    refine Ends.then_ret ?_
                    refine Ends.then_ret ?_
                    refine Ends.block_ret ?_
                    refine Ends.block_ret ?_
                    refine Ends.then_ret ?_
                    refine Ends.then_ret ?_
                    refine Ends.block_ret ?_
                    refine Ends.then_ret ?_
                    refine Ends.leave (.inl rfl) (fun _ _ ok => results3 Tryd.results16 (Holds.tmp rfl) (Holds.tmp rfl) (Holds.tmp rfl) ok) (fun w1 hs => ?_)
                    exact absurd (getD_set_self' (by omega)) h91
                  · have h91 := of_decide_eq_false h91
                    refine RunC.skip ?_
                    refine Ends.block ?_
                    refine Ends.then ?_
                    refine RunC.region ?_
                    refine RunL.still rfl rfl rfl (Still.add rfl rfl rfl (fits64 (by omega) (by omega))) ?_
                    refine RunL.still rfl rfl rfl (Still.move rfl rfl) ?_
                    refine RunL.nil ?_
                    refine Ends.again (v84, f + 1, (q.1.set (fAt g u f).tet.toNat (-sgnP (fAt g u f).p * q.1.getD u 0), q.2 ++ [(fAt g u f).tet.toNat])) ?_ ?_ (Fr.Sub.app ?_ ?_) ?_
                    · exact ⟨by show f + 1 ≤ 4; omega, oTo_snoc hT (oFace_new h56 h74)⟩
                    · show 4 - (f + 1) < 4 - f; omega
                    · exact Fr.Sub.cons rfl (Fr.Sub.cons rfl (Fr.Sub.nil _))
                    · exact Fr.Sub.cons rfl (Fr.Sub.cons rfl (Fr.Sub.cons rfl (Fr.Sub.cons rfl (Fr.Sub.cons rfl (Fr.Sub.cons rfl (Fr.Sub.nil _))))))
                    · exact HSub.pick 2 rfl (HSub.pick 2 (by simp only [List.length_append, List.length_singleton]; rfl) (HSub.pick 2 rfl (HSub.nil _)))
                · have h74 := of_decide_eq_false h74
                  refine RunC.skip ?_
                  refine Ends.then ?_
                  refine RunC.seq ?_
                  refine RunC.region ?_
                  refine RunL.still rfl rfl rfl (Still.move rfl rfl) ?_
                  refine RunL.still rfl rfl rfl (Still.fieldAddrL (off := 0) (off' := 0) rfl rfl Tryd.underlying36 rfl Tryd.sizeOf3 rfl) ?_
                  refine RunL.still rfl rfl rfl (Still.load rfl rfl Tryd.isAgg3 (fun _ hs => cell_nth (hs.at (i := 0) rfl) rfl)) ?_
                  refine RunL.still rfl rfl rfl (Still.indexOwnI (m := (fAt g u f).tet.toNat) rfl rfl rfl Tryd.underlying41 Tryd.sizeOf3 (fun _ hs => hs.own (i := 1) rfl) (by omega) (by omega)) ?_
                  refine RunL.still rfl rfl rfl (Still.load rfl rfl Tryd.isAgg3 (fun w hs => own_at (hs.own (i := 1) rfl) (ints_get (getD_get' (by first | omega | (simp; omega)))))) ?_
                  refine RunL.still rfl rfl rfl (Still.move rfl rfl) ?_
                  refine RunL.still rfl rfl rfl (Still.neq rfl rfl rfl) ?_
                  refine RunL.nil ?_
                  refine Ends.then ?_
                  refine RunC.cond rfl (fun h91 => ?_) (fun h91 => ?_)
                  · have h91 := of_decide_eq_true h91
                    refine RunC.seq ?_
                    refine RunC.region ?_
                    refine RunL.still rfl rfl rfl (Still.assign rfl rfl) ?_
                    refine RunL.still rfl rfl rfl (Still.assign rfl rfl) ?_
                    refine RunL.still rfl rfl rfl (Still.assign rfl rfl) ?_
                    refine RunL.nil ?_
                    refine Ends.then ?_
                    refine RunC.ret ?_
                    refine Ends.block_ret ?_
                    refine Ends.then_ret ?_
                    refine Ends.then_ret ?_
                    refine Ends.block_ret ?_
                    refine Ends.block_ret ?_
                    refine Ends.then_ret ?_
                    refine Ends.then_ret ?_
                    refine Ends.block_ret ?_
                    refine Ends.block_ret ?_
                    refine Ends.then_ret ?_
                    refine Ends.then_ret ?_
                    refine Ends.block_ret ?_
                    refine Ends.then_ret ?_
                    have hn4 := oTo_none4 hf4 hT (oFace_bad h56 h74 h91)
                    obtain ⟨k, rfl⟩ : ∃ m, k = m + 1 := ⟨k - 1, by have := (List.getElem?_eq_some_iff.1 hu).1; omega⟩
                    have hn := oriG_none (g := g) (t := t + 1) (by omega) (by rw [oAll_new hA hge, ← hM, oBfs_step hu, hn4]; rfl)
                    refine Ends.leave (.inl rfl) (fun _ _ ok => results3 Tryd.results16 (Holds.tmp rfl) (Holds.tmp rfl) (Holds.tmp rfl) ok) (fun w2 hs => ?_)
                    exact Ret.intro 0 trivial (by rw [oriV_none hn]) (by rw [oriH_none hn]; exact HSub.nil _) hs
                  · have h91 := of_decide_eq_false h91
                    refine RunC.skip ?_
                    refine Ends.block ?_
                    refine Ends.then ?_
                    refine RunC.region ?_
                    refine RunL.still rfl rfl rfl (Still.add rfl rfl rfl (fits64 (by omega) (by omega))) ?_
                    refine RunL.still rfl rfl rfl (Still.move rfl rfl) ?_
                    refine RunL.nil ?_
                    refine Ends.again (v, f + 1, q) ?_ ?_ (Fr.Sub.app ?_ ?_) ?_
                    · exact ⟨by show f + 1 ≤ 4; omega, oTo_snoc hT (oFace_same h56 h74 (Decidable.not_not.1 h91))⟩
                    · show 4 - (f + 1) < 4 - f; omega
                    · exact Fr.Sub.cons rfl (Fr.Sub.cons rfl (Fr.Sub.nil _))
                    · exact Fr.Sub.cons rfl (Fr.Sub.cons rfl (Fr.Sub.cons rfl (Fr.Sub.cons rfl (Fr.Sub.cons rfl (Fr.Sub.cons rfl (Fr.Sub.nil _))))))
                    · exact HSub.pick 1 rfl (HSub.pick 1 rfl (HSub.pick 1 rfl (HSub.nil _)))
            · have h52 := of_decide_eq_false h52
              obtain rfl : f = 4 := by omega
              refine RunC.exit ?_
              refine Ends.then_exit ?_
              refine Ends.then_exit ?_
              refine Ends.block_exit ?_
              refine Ends.block ?_
              refine Ends.then ?_
              refine RunC.region ?_
              refine RunL.still rfl rfl rfl (Still.move rfl rfl) ?_
              refine RunL.still rfl rfl rfl (Still.add rfl rfl rfl (fits64 (by omega) (by omega))) ?_
              refine RunL.still rfl rfl rfl (Still.assign rfl rfl) ?_
              refine RunL.nil ?_
              obtain ⟨k, rfl⟩ : ∃ m, k = m + 1 := ⟨k - 1, by have := (List.getElem?_eq_some_iff.1 hu).1; omega⟩
              refine Ends.again (v, q, i + 1, k) ?_ ?_ (Fr.Sub.app ?_ ?_) ?_
              · exact ⟨hO4, by rw [← hM, oBfs_step hu, hT]; rfl, by show i + 1 + k = _; omega⟩
              · exact Nat.lt_succ_self _
              · exact Fr.Sub.cons rfl (Fr.Sub.cons rfl (Fr.Sub.nil _))
              · exact Fr.Sub.cons rfl (Fr.Sub.cons rfl (Fr.Sub.cons rfl (Fr.Sub.cons rfl (Fr.Sub.nil _))))
              · exact HSub.pick 0 rfl (HSub.pick 0 rfl (HSub.pick 0 rfl (HSub.nil _)))
          ·
            refine RunY.still rfl rfl rfl rfl (Still.indexOwn rfl rfl rfl Tryd.underlying41 Tryd.sizeOf3 (fun _ hs => hs.own (i := 1) rfl) (by omega)) ?_
            refine RunY.two ?_ ?_
            ·
              refine RunY.still rfl rfl rfl rfl (Still.load rfl rfl Tryd.isAgg31 (fun _ hs => cell_nth (hs.at (i := 2) rfl) rfl)) ?_
              refine RunY.still rfl rfl rfl rfl (Still.load rfl rfl Tryd.isAgg3 (fun w hs => own_at (hs.own (i := 1) rfl) (nints_get hu))) ?_
              refine RunY.pure rfl rfl rfl rfl (fun _ => Still.indexSliceN rfl rfl rfl Tryd.underlying31 Tryd.sizeOf37 (hg.base (by omega)) (by omega)) ?_
              refine RunY.still rfl rfl rfl rfl (Still.loads rfl rfl Tryd.isAgg37 Tryd.sizeOf37 (vs := [iv (tAt g u).f0.tet, iv (tAt g u).f0.p.a0, iv (tAt g u).f0.p.a1, iv (tAt g u).f0.p.a2, iv (tAt g u).f0.p.a3, iv (tAt g u).f1.tet, iv (tAt g u).f1.p.a0, iv (tAt g u).f1.p.a1, iv (tAt g u).f1.p.a2, iv (tAt g u).f1.p.a3, iv (tAt g u).f2.tet, iv (tAt g u).f2.p.a0, iv (tAt g u).f2.p.a1, iv (tAt g u).f2.p.a2, iv (tAt g u).f2.p.a3, iv (tAt g u).f3.tet, iv (tAt g u).f3.p.a0, iv (tAt g u).f3.p.a1, iv (tAt g u).f3.p.a2, iv (tAt g u).f3.p.a3]) rfl (fun _ hs => (hg.sym hs).cell u _ (tAt_get huN))) ?_
              refine RunY.done ?_
              refine Ends.then ?_
              refine RunC.block ?_
              refine RunC.loop2 (γ := Value × Nat × BSt) (keep := [(1, _), (6, _), (9, _), (23, _), (24, _), (50, _)]) (hkeep := [_]) (fun (v, f, q) => f ≤ 4 ∧ oTo g u s f = some q) (fun (v, f, q) => 4 - f) (fun (v, f, q) => [(8, v), (51, iv f)]) (fun (v, f, q) => [HL.own 3 1 (.slice (some ⟨b21, 0, none⟩) g.length g.length) g.length (ints q.1), HL.own 3 1 v q.2.length (nints q.2)]) (v, 0, s) ⟨Nat.zero_le 4, rfl⟩ (Fr.Sub.cons rfl (Fr.Sub.cons rfl (Fr.Sub.nil _))) (Fr.Sub.cons rfl (Fr.Sub.cons rfl (Fr.Sub.cons rfl (Fr.Sub.cons rfl (Fr.Sub.cons rfl (Fr.Sub.cons rfl (Fr.Sub.nil _))))))) (HSub.pick 0 rfl (HSub.pick 0 rfl (HSub.pick 0 rfl (HSub.nil _)))) ?_
              rintro ⟨v, f, q⟩ ⟨hf, hT⟩
              have hf : f ≤ 4 := hf
              have hT : oTo g u s f = some q := hT
              obtain ⟨hO4, hz4⟩ := oTo_ok hok huN hO hzu f hf hT
              have hq4 := oTo_pre hu f hT
              have hi4 := (List.getElem?_eq_some_iff.1 hq4).1
              have hr4 := hO4.room
              have hl4 := hO4.len
              refine RunC.seq ?_
              refine RunC.region ?_
              refine RunL.still rfl rfl rfl (Still.lss rfl rfl rfl) ?_
              refine RunL.nil ?_
              refine Ends.then ?_
              refine RunC.seq ?_
              refine RunC.cond rfl (fun h52 => ?_) (fun h52 => ?_)
              · have h52 := of_decide_eq_true h52
                have hf4 : f < 4 := by omega
                refine RunC.skip ?_
                refine Ends.then ?_
                refine RunC.seq ?_
                refine RunC.block ?_
                refine RunC.seq ?_
                refine RunC.region ?_
                refine RunL.still rfl rfl rfl (Still.indexAgg rfl rfl rfl Tryd.underlying37 Tryd.sizeOf36 Tryd.isAgg36 ⟨by omega, by omega⟩ (ttV_fAt g u hf4)) ?_
                refine RunL.grows rfl rfl rfl (Grows.alloc rfl Tryd.zeroValue36) (fun b11 _ => ?_)
                refine RunL.does0 rfl rfl (Does.store rfl rfl rfl (i := 0) rfl Tryd.sizeOf36 rfl (rfl) rfl) (fun _ _ => ?_)
                refine RunL.nil ?_
                refine Ends.then ?_
                refine RunC.seq ?_
                refine RunC.seq ?_
                refine RunC.region ?_
                refine RunL.still rfl rfl rfl (Still.fieldAddrL (off := 0) (off' := 0) rfl rfl Tryd.underlying36 rfl Tryd.sizeOf3 rfl) ?_
                refine RunL.still rfl rfl rfl (Still.load rfl rfl Tryd.isAgg3 (fun _ hs => cell_nth (hs.at (i := 0) rfl) rfl)) ?_
                refine RunL.still rfl rfl rfl (Still.lss rfl rfl rfl) ?_
                refine RunL.nil ?_
                refine Ends.then ?_
                refine RunC.cond rfl (fun h56 => ?_) (fun h56 => ?_)
                · have h56 := of_decide_eq_true h56
                  refine RunC.exit ?_
                  refine Ends.then_exit ?_
                  refine Ends.block_exit ?_
                  refine Ends.then ?_
                  refine RunC.region ?_
                  refine RunL.still rfl rfl rfl (Still.add rfl rfl rfl (fits64 (by omega) (by omega))) ?_
                  refine RunL.still rfl rfl rfl (Still.move rfl rfl) ?_
                  refine RunL.nil ?_
                  refine Ends.again (v, f + 1, q) ?_ ?_ (Fr.Sub.app ?_ ?_) ?_
                  · exact ⟨by show f + 1 ≤ 4; omega, oTo_snoc hT (oFace_free h56)⟩
                  · show 4 - (f + 1) < 4 - f; omega
                  · exact Fr.Sub.cons rfl (Fr.Sub.cons rfl (Fr.Sub.nil _))
                  · exact Fr.Sub.cons rfl (Fr.Sub.cons rfl (Fr.Sub.cons rfl (Fr.Sub.cons rfl (Fr.Sub.cons rfl (Fr.Sub.cons rfl (Fr.Sub.nil _))))))
                  · exact HSub.pick 1 rfl (HSub.pick 1 rfl (HSub.pick 1 rfl (HSub.nil _)))
                · have h56 := of_decide_eq_false h56
                  have hF := okG_glued hok huN hf4 (by omega)
                  have hFl := hF.lo
                  have hFh := hF.hi
                  have hw1 := want_one hO4 (fAt g u f).p hz4
                  have hs1 := sgnP_one (fAt g u f).p
                  refine RunC.skip ?_
                  refine Ends.then ?_
                  refine RunC.seq ?_
                  refine RunC.draw 12 (.still 0 (.still 1 (.still 4 (.still 5 (.still 6 (.still 7 (.still 8 (.still 9 (.still 10 (.one 2 (.still 3 (.still 11 .done)))))))))))) (by kernel_rfl) (by kernel_rfl) ?_
                  refine RunG.still rfl rfl rfl rfl (Still.fieldAddrL (off := 0) (off' := 1) rfl rfl Tryd.underlying36 rfl Tryd.sizeOf23 rfl) ?_
                  refine RunG.still rfl rfl rfl rfl (Still.loads rfl rfl Tryd.isAgg23 Tryd.sizeOf23 (vs := [_, _, _, _]) rfl (fun _ hs => cells_nth (hs.at (i := 0) rfl) ⟨rfl, ⟨rfl, ⟨rfl, ⟨rfl, trivial⟩⟩⟩⟩)) ?_
                  refine RunG.still rfl rfl rfl rfl (Still.move rfl rfl) ?_
                  refine RunG.still rfl rfl rfl rfl (Still.move rfl rfl) ?_
                  refine RunG.still rfl rfl rfl rfl (Still.move rfl rfl) ?_
                  refine RunG.still rfl rfl rfl rfl (Still.indexOwn rfl rfl rfl Tryd.underlying41 Tryd.sizeOf3 (fun _ hs => hs.own (i := 2) rfl) (by omega)) ?_
                  refine RunG.still rfl rfl rfl rfl (Still.load rfl rfl Tryd.isAgg3 (fun w hs => own_at (hs.own (i := 2) rfl) (nints_get hq4))) ?_
                  refine RunG.still rfl rfl rfl rfl (Still.indexOwn rfl rfl rfl Tryd.underlying41 Tryd.sizeOf3 (fun _ hs => hs.own (i := 1) rfl) (by omega)) ?_
                  refine RunG.still rfl rfl rfl rfl (Still.load rfl rfl Tryd.isAgg3 (fun w hs => own_at (hs.own (i := 1) rfl) (ints_get (getD_get' (by omega))))) ?_
                  refine RunG.grows rfl rfl rfl rfl (Grows.call (vs := #[_]) rfl rfl Tryd.call25 (fun w hs => gl_sign _ w)) (fun _ _ => ?_)
                  refine RunG.still rfl rfl rfl rfl (Still.neg rfl rfl (fits64 (by omega) (by omega))) ?_
                  refine RunG.still rfl rfl rfl rfl (Still.mul rfl rfl rfl (fits64 (by omega) (by omega))) ?_
                  refine RunG.done ?_
                  show RunL _ _ _ [_] _ _
                  refine RunL.still rfl rfl rfl (Still.assign rfl rfl) ?_
                  refine RunL.nil ?_
                  refine Ends.then ?_
                  refine RunC.seq ?_
                  refine RunC.seq ?_
                  refine RunC.region ?_
                  refine RunL.still rfl rfl rfl (Still.move rfl rfl) ?_
                  refine RunL.still rfl rfl rfl (Still.fieldAddrL (off := 0) (off' := 0) rfl rfl Tryd.underlying36 rfl Tryd.sizeOf3 rfl) ?_
                  refine RunL.still rfl rfl rfl (Still.load rfl rfl Tryd.isAgg3 (fun _ hs => cell_nth (hs.at (i := 0) rfl) rfl)) ?_
                  refine RunL.still rfl rfl rfl (Still.indexOwnI (m := (fAt g u f).tet.toNat) rfl rfl rfl Tryd.underlying41 Tryd.sizeOf3 (fun _ hs => hs.own (i := 1) rfl) (by omega) (by omega)) ?_
                  refine RunL.still rfl rfl rfl (Still.load rfl rfl Tryd.isAgg3 (fun w hs => own_at (hs.own (i := 1) rfl) (ints_get (getD_get' (by omega))))) ?_
                  refine RunL.still rfl rfl rfl (Still.eql rfl rfl rfl) ?_
                  refine RunL.nil ?_
                  refine Ends.then ?_
                  refine RunC.cond rfl (fun h74 => ?_) (fun h74 => ?_)
                  · have h74 := of_decide_eq_true h74
                    refine RunC.seq ?_
                    refine RunC.region ?_
                    refine RunL.still rfl rfl rfl (Still.move rfl rfl) ?_
                    refine RunL.still rfl rfl rfl (Still.fieldAddrL (off := 0) (off' := 0) rfl rfl Tryd.underlying36 rfl Tryd.sizeOf3 rfl) ?_
                    refine RunL.still rfl rfl rfl (Still.load rfl rfl Tryd.isAgg3 (fun _ hs => cell_nth (hs.at (i := 0) rfl) rfl)) ?_
                    refine RunL.still rfl rfl rfl (Still.move rfl rfl) ?_
                    refine RunL.still rfl rfl rfl (Still.indexOwnI (m := (fAt g u f).tet.toNat) rfl rfl rfl Tryd.underlying41 Tryd.sizeOf3 (fun _ hs => hs.own (i := 1) rfl) (by omega) (by omega)) ?_
                    refine RunL.does0 rfl rfl (Does.storeOwn1 (xs' := (ints (q.1.set (fAt g u f).tet.toNat (-sgnP (fAt g u f).p * q.1.getD u 0)))) rfl rfl rfl rfl (i := 1) rfl Tryd.sizeOf3 rfl (by simp; omega) (ints_set _ _ _)) (fun _ _ => ?_)
                    refine RunL.nil ?_
                    refine Ends.then ?_
                    refine RunC.region ?_
                    refine RunL.still rfl rfl rfl (Still.move rfl rfl) ?_
                    refine RunL.still rfl rfl rfl (Still.fieldAddrL (off := 0) (off' := 0) rfl rfl Tryd.underlying36 rfl Tryd.sizeOf3 rfl) ?_
                    refine RunL.still rfl rfl rfl (Still.load rfl rfl Tryd.isAgg3 (fun _ hs => cell_nth (hs.at (i := 0) rfl) rfl)) ?_
                    refine RunL.grows rfl rfl rfl (Grows.slice1 rfl rfl Tryd.underlying41 Tryd.sizeOf3 rfl Tryd.zeroValue3 (by decide)) (fun b83 _ => ?_)
                    refine RunL.does rfl rfl rfl (Does.appendTo (n' := (q.2.length + 1)) (xs' := (nints (q.2 ++ [(fAt g u f).tet.toNat]))) (news := [_]) rfl rfl rfl rfl (i := 3) rfl Tryd.underlying41 (by kernel_rfl : (_ : Option _) = some (some (.int .i64 0), 1, 8)) rfl rfl (fun _ hs => cells_nth (hs.at (i := 0) rfl) ⟨rfl, trivial⟩) rfl rfl (by omega) (by omega) (rfl) ((congrArg (fun z => _ ++ [iv z]) (by omega)).trans (nints_snoc _ _))) (fun v84 hv84 => ?_)
                    refine RunL.still rfl rfl rfl (Still.assign rfl rfl) ?_
                    refine RunL.nil ?_
                    refine Ends.then ?_
                    refine RunC.seq ?_
                    refine RunC.region ?_
                    refine RunL.still rfl rfl rfl (Still.move rfl rfl) ?_
                    refine RunL.still rfl rfl rfl (Still.fieldAddrL (off := 0) (off' := 0) rfl rfl Tryd.underlying36 rfl Tryd.sizeOf3 rfl) ?_
                    refine RunL.still rfl rfl rfl (Still.load rfl rfl Tryd.isAgg3 (fun _ hs => cell_nth (hs.at (i := 1) rfl) rfl)) ?_
                    refine RunL.still rfl rfl rfl (Still.indexOwnI (m := (fAt g u f).tet.toNat) rfl rfl rfl Tryd.underlying41 Tryd.sizeOf3 (fun _ hs => hs.own (i := 2) rfl) (by omega) (by omega)) ?_
                    refine RunL.still rfl rfl rfl (Still.load rfl rfl Tryd.isAgg3 (fun w hs => own_at (hs.own (i := 2) rfl) (ints_get (getD_get' (by first | omega | (simp; omega)))))) ?_
                    refine RunL.still rfl rfl rfl (Still.move rfl rfl) ?_
                    refine RunL.still rfl rfl rfl (Still.neq rfl rfl rfl) ?_
                    refine RunL.nil ?_
                    refine Ends.then ?_
                    refine RunC.cond rfl (fun h91 => ?_) (fun h91 => ?_)
                    · have h91 := of_decide_eq_true h91
                      refine RunC.seq ?_
                      refine RunC.region ?_
                      refine RunL.still rfl rfl rfl (Still.assign rfl rfl) ?_
                      refine RunL.still rfl rfl rfl (Still.assign rfl rfl) ?_
                      refine RunL.still rfl rfl rfl (Still.assign rfl rfl) ?_
                      refine RunL.nil ?_
                      refine Ends.then ?_
                      refine RunC.ret ?_
                      refine Ends.block_ret ?_
                      refine Ends.then_ret ?_
                      refine Ends.then_ret ?_
                      refine Ends.block_ret ?_
                      refine Ends.block_ret ?_
                      refine Ends.then_ret ?_
                      refine Ends.then_ret ?_
                      refine Ends.block_ret ?_
                      refine Ends.block_ret ?_
                      refine Ends.then_ret ?_
                      refine Ends.then_ret ?_
                      refine Ends.block_ret ?_
                      refine Ends.then_ret ?_
                      refine Ends.leave (.inl rfl) (fun _ _ ok => results3 Tryd.results16 (Holds.tmp rfl) (Holds.tmp rfl) (Holds.tmp rfl) ok) (fun w3 hs => ?_)
                      exact absurd (getD_set_self' (by omega)) h91
                    · have h91 := of_decide_eq_false h91
                      refine RunC.skip ?_
                      refine Ends.block ?_
                      refine Ends.then ?_
                      refine RunC.region ?_
                      refine RunL.still rfl rfl rfl (Still.add rfl rfl rfl (fits64 (by omega) (by omega))) ?_
                      refine RunL.still rfl rfl rfl (Still.move rfl rfl) ?_
                      refine RunL.nil ?_
                      refine Ends.again (v84, f + 1, (q.1.set (fAt g u f).tet.toNat (-sgnP (fAt g u f).p * q.1.getD u 0), q.2 ++ [(fAt g u f).tet.toNat])) ?_ ?_ (Fr.Sub.app ?_ ?_) ?_
                      · exact ⟨by show f + 1 ≤ 4; omega, oTo_snoc hT (oFace_new h56 h74)⟩
                      · show 4 - (f + 1) < 4 - f; omega
                      · exact Fr.Sub.cons rfl (Fr.Sub.cons rfl (Fr.Sub.nil _))
                      · exact Fr.Sub.cons rfl (Fr.Sub.cons rfl (Fr.Sub.cons rfl (Fr.Sub.cons rfl (Fr.Sub.cons rfl (Fr.Sub.cons rfl (Fr.Sub.nil _))))))
                      · exact HSub.pick 2 rfl (HSub.pick 2 (by simp only [List.length_append, List.length_singleton]; rfl) (HSub.pick 2 rfl (HSub.nil _)))
                  · have h74 := of_decide_eq_false h74
                    refine RunC.skip ?_
                    refine Ends.then ?_
                    refine RunC.seq ?_
                    refine RunC.region ?_
                    refine RunL.still rfl rfl rfl (Still.move rfl rfl) ?_
                    refine RunL.still rfl rfl rfl (Still.fieldAddrL (off := 0) (off' := 0) rfl rfl Tryd.underlying36 rfl Tryd.sizeOf3 rfl) ?_
                    refine RunL.still rfl rfl rfl (Still.load rfl rfl Tryd.isAgg3 (fun _ hs => cell_nth (hs.at (i := 0) rfl) rfl)) ?_
                    refine RunL.still rfl rfl rfl (Still.indexOwnI (m := (fAt g u f).tet.toNat) rfl rfl rfl Tryd.underlying41 Tryd.sizeOf3 (fun _ hs => hs.own (i := 1) rfl) (by omega) (by omega)) ?_
                    refine RunL.still rfl rfl rfl (Still.load rfl rfl Tryd.isAgg3 (fun w hs => own_at (hs.own (i := 1) rfl) (ints_get (getD_get' (by first | omega | (simp; omega)))))) ?_
                    refine RunL.still rfl rfl rfl (Still.move rfl rfl) ?_
                    refine RunL.still rfl rfl rfl (Still.neq rfl rfl rfl) ?_
                    refine RunL.nil ?_
                    refine Ends.then ?_
                    refine RunC.cond rfl (fun h91 => ?_) (fun h91 => ?_)
                    · have h91 := of_decide_eq_true h91
                      refine RunC.seq ?_
                      refine RunC.region ?_
                      refine RunL.still rfl rfl rfl (Still.assign rfl rfl) ?_
                      refine RunL.still rfl rfl rfl (Still.assign rfl rfl) ?_
                      refine RunL.still rfl rfl rfl (Still.assign rfl rfl) ?_
                      refine RunL.nil ?_
                      refine Ends.then ?_
                      refine RunC.ret ?_
                      refine Ends.block_ret ?_
                      refine Ends.then_ret ?_
                      refine Ends.then_ret ?_
                      refine Ends.block_ret ?_
                      refine Ends.block_ret ?_
                      refine Ends.then_ret ?_
                      refine Ends.then_ret ?_
                      refine Ends.block_ret ?_
                      refine Ends.block_ret ?_
                      refine Ends.then_ret ?_
                      refine Ends.then_ret ?_
                      refine Ends.block_ret ?_
                      refine Ends.then_ret ?_
                      have hn4 := oTo_none4 hf4 hT (oFace_bad h56 h74 h91)
                      obtain ⟨k, rfl⟩ : ∃ m, k = m + 1 := ⟨k - 1, by have := (List.getElem?_eq_some_iff.1 hu).1; omega⟩
                      have hn := oriG_none (g := g) (t := t + 1) (by omega) (by rw [oAll_new hA hge, ← hM, oBfs_step hu, hn4]; rfl)
                      refine Ends.leave (.inl rfl) (fun _ _ ok => results3 Tryd.results16 (Holds.tmp rfl) (Holds.tmp rfl) (Holds.tmp rfl) ok) (fun w4 hs => ?_)
                      exact Ret.intro 0 trivial (by rw [oriV_none hn]) (by rw [oriH_none hn]; exact HSub.nil _) hs
                    · have h91 := of_decide_eq_false h91
                      refine RunC.skip ?_
                      refine Ends.block ?_
                      refine Ends.then ?_
                      refine RunC.region ?_
                      refine RunL.still rfl rfl rfl (Still.add rfl rfl rfl (fits64 (by omega) (by omega))) ?_
                      refine RunL.still rfl rfl rfl (Still.move rfl rfl) ?_
                      refine RunL.nil ?_
                      refine Ends.again (v, f + 1, q) ?_ ?_ (Fr.Sub.app ?_ ?_) ?_
                      · exact ⟨by show f + 1 ≤ 4; omega, oTo_snoc hT (oFace_same h56 h74 (Decidable.not_not.1 h91))⟩
                      · show 4 - (f + 1) < 4 - f; omega
                      · exact Fr.Sub.cons rfl (Fr.Sub.cons rfl (Fr.Sub.nil _))
                      · exact Fr.Sub.cons rfl (Fr.Sub.cons rfl (Fr.Sub.cons rfl (Fr.Sub.cons rfl (Fr.Sub.cons rfl (Fr.Sub.cons rfl (Fr.Sub.nil _))))))
                      · exact HSub.pick 1 rfl (HSub.pick 1 rfl (HSub.pick 1 rfl (HSub.nil _)))
              · have h52 := of_decide_eq_false h52
                obtain rfl : f = 4 := by omega
                refine RunC.exit ?_
                refine Ends.then_exit ?_
                refine Ends.then_exit ?_
                refine Ends.block_exit ?_
                refine Ends.block ?_
                refine Ends.then ?_
                refine RunC.region ?_
                refine RunL.still rfl rfl rfl (Still.move rfl rfl) ?_
                refine RunL.still rfl rfl rfl (Still.add rfl rfl rfl (fits64 (by omega) (by omega))) ?_
                refine RunL.still rfl rfl rfl (Still.assign rfl rfl) ?_
                refine RunL.nil ?_
                obtain ⟨k, rfl⟩ : ∃ m, k = m + 1 := ⟨k - 1, by have := (List.getElem?_eq_some_iff.1 hu).1; omega⟩
                refine Ends.again (v, q, i + 1, k) ?_ ?_ (Fr.Sub.app ?_ ?_) ?_
                · exact ⟨hO4, by rw [← hM, oBfs_step hu, hT]; rfl, by show i + 1 + k = _; omega⟩
                · exact Nat.lt_succ_self _
                · exact Fr.Sub.cons rfl (Fr.Sub.cons rfl (Fr.Sub.nil _))
                · exact Fr.Sub.cons rfl (Fr.Sub.cons rfl (Fr.Sub.cons rfl (Fr.Sub.cons rfl (Fr.Sub.nil _))))
                · exact HSub.pick 0 rfl (HSub.pick 0 rfl (HSub.pick 0 rfl (HSub.nil _)))
            ·
              refine RunY.still rfl rfl rfl rfl (Still.load rfl rfl Tryd.isAgg3 (fun w hs => own_at (hs.own (i := 1) rfl) (nints_get hu))) ?_
              refine RunY.still rfl rfl rfl rfl (Still.load rfl rfl Tryd.isAgg31 (fun _ hs => cell_nth (hs.at (i := 2) rfl) rfl)) ?_
              refine RunY.pure rfl rfl rfl rfl (fun _ => Still.indexSliceN rfl rfl rfl Tryd.underlying31 Tryd.sizeOf37 (hg.base (by omega)) (by omega)) ?_
              refine RunY.still rfl rfl rfl rfl (Still.loads rfl rfl Tryd.isAgg37 Tryd.sizeOf37 (vs := [iv (tAt g u).f0.tet, iv (tAt g u).f0.p.a0, iv (tAt g u).f0.p.a1, iv (tAt g u).f0.p.a2, iv (tAt g u).f0.p.a3, iv (tAt g u).f1.tet, iv (tAt g u).f1.p.a0, iv (tAt g u).f1.p.a1, iv (tAt g u).f1.p.a2, iv (tAt g u).f1.p.a3, iv (tAt g u).f2.tet, iv (tAt g u).f2.p.a0, iv (tAt g u).f2.p.a1, iv (tAt g u).f2.p.a2, iv (tAt g u).f2.p.a3, iv (tAt g u).f3.tet, iv (tAt g u).f3.p.a0, iv (tAt g u).f3.p.a1, iv (tAt g u).f3.p.a2, iv (tAt g u).f3.p.a3]) rfl (fun _ hs => (hg.sym hs).cell u _ (tAt_get huN))) ?_
              refine RunY.done ?_
              refine Ends.then ?_
              refine RunC.block ?_
              refine RunC.loop2 (γ := Value × Nat × BSt) (keep := [(1, _), (6, _), (9, _), (23, _), (24, _), (50, _)]) (hkeep := [_]) (fun (v, f, q) => f ≤ 4 ∧ oTo g u s f = some q) (fun (v, f, q) => 4 - f) (fun (v, f, q) => [(8, v), (51, iv f)]) (fun (v, f, q) => [HL.own 3 1 (.slice (some ⟨b21, 0, none⟩) g.length g.length) g.length (ints q.1), HL.own 3 1 v q.2.length (nints q.2)]) (v, 0, s) ⟨Nat.zero_le 4, rfl⟩ (Fr.Sub.cons rfl (Fr.Sub.cons rfl (Fr.Sub.nil _))) (Fr.Sub.cons rfl (Fr.Sub.cons rfl (Fr.Sub.cons rfl (Fr.Sub.cons rfl (Fr.Sub.cons rfl (Fr.Sub.cons rfl (Fr.Sub.nil _))))))) (HSub.pick 0 rfl (HSub.pick 0 rfl (HSub.pick 0 rfl (HSub.nil _)))) ?_
              rintro ⟨v, f, q⟩ ⟨hf, hT⟩
              have hf : f ≤ 4 := hf
              have hT : oTo g u s f = some q := hT
              obtain ⟨hO4, hz4⟩ := oTo_ok hok huN hO hzu f hf hT
              have hq4 := oTo_pre hu f hT
              have hi4 := (List.getElem?_eq_some_iff.1 hq4).1
              have hr4 := hO4.room
              have hl4 := hO4.len
              refine RunC.seq ?_
              refine RunC.region ?_
              refine RunL.still rfl rfl rfl (Still.lss rfl rfl rfl) ?_
              refine RunL.nil ?_
              refine Ends.then ?_
              refine RunC.seq ?_
              refine RunC.cond rfl (fun h52 => ?_) (fun h52 => ?_)
              · have h52 := of_decide_eq_true h52
                have hf4 : f < 4 := by omega
                refine RunC.skip ?_
                refine Ends.then ?_
                refine RunC.seq ?_
                refine RunC.block ?_
                refine RunC.seq ?_
                refine RunC.region ?_
                refine RunL.still rfl rfl rfl (Still.indexAgg rfl rfl rfl Tryd.underlying37 Tryd.sizeOf36 Tryd.isAgg36 ⟨by omega, by omega⟩ (ttV_fAt g u hf4)) ?_
                refine RunL.grows rfl rfl rfl (Grows.alloc rfl Tryd.zeroValue36) (fun b11 _ => ?_)
                refine RunL.does0 rfl rfl (Does.store rfl rfl rfl (i := 0) rfl Tryd.sizeOf36 rfl (rfl) rfl) (fun _ _ => ?_)
                refine RunL.nil ?_
                refine Ends.then ?_
                refine RunC.seq ?_
                refine RunC.seq ?_
                refine RunC.region ?_
                refine RunL.still rfl rfl rfl (Still.fieldAddrL (off := 0) (off' := 0) rfl rfl Tryd.underlying36 rfl Tryd.sizeOf3 rfl) ?_
                refine RunL.still rfl rfl rfl (Still.load rfl rfl Tryd.isAgg3 (fun _ hs => cell_nth (hs.at (i := 0) rfl) rfl)) ?_
                refine RunL.still rfl rfl rfl (Still.lss rfl rfl rfl) ?_
                refine RunL.nil ?_
                refine Ends.then ?_
                refine RunC.cond rfl (fun h56 => ?_) (fun h56 => ?_)
                · have h56 := of_decide_eq_true h56
                  refine RunC.exit ?_
                  refine Ends.then_exit ?_
                  refine Ends.block_exit ?_
                  refine Ends.then ?_
                  refine RunC.region ?_
                  refine RunL.still rfl rfl rfl (Still.add rfl rfl rfl (fits64 (by omega) (by omega))) ?_
                  refine RunL.still rfl rfl rfl (Still.move rfl rfl) ?_
                  refine RunL.nil ?_
                  refine Ends.again (v, f + 1, q) ?_ ?_ (Fr.Sub.app ?_ ?_) ?_
                  · exact ⟨by show f + 1 ≤ 4; omega, oTo_snoc hT (oFace_free h56)⟩
                  · show 4 - (f + 1) < 4 - f; omega
                  · exact Fr.Sub.cons rfl (Fr.Sub.cons rfl (Fr.Sub.nil _))
                  · exact Fr.Sub.cons rfl (Fr.Sub.cons rfl (Fr.Sub.cons rfl (Fr.Sub.cons rfl (Fr.Sub.cons rfl (Fr.Sub.cons rfl (Fr.Sub.nil _))))))
                  · exact HSub.pick 1 rfl (HSub.pick 1 rfl (HSub.pick 1 rfl (HSub.nil _)))
                · have h56 := of_decide_eq_false h56
                  have hF := okG_glued hok huN hf4 (by omega)
                  have hFl := hF.lo
                  have hFh := hF.hi
                  have hw1 := want_one hO4 (fAt g u f).p hz4
                  have hs1 := sgnP_one (fAt g u f).p
                  refine RunC.skip ?_
                  refine Ends.then ?_
                  refine RunC.seq ?_
                  refine RunC.draw 12 (.still 0 (.still 1 (.still 4 (.still 5 (.still 6 (.still 7 (.still 8 (.still 9 (.still 10 (.one 2 (.still 3 (.still 11 .done)))))))))))) (by kernel_rfl) (by kernel_rfl) ?_
                  refine RunG.still rfl rfl rfl rfl (Still.fieldAddrL (off := 0) (off' := 1) rfl rfl Tryd.underlying36 rfl Tryd.sizeOf23 rfl) ?_
                  refine RunG.still rfl rfl rfl rfl (Still.loads rfl rfl Tryd.isAgg23 Tryd.sizeOf23 (vs := [_, _, _, _]) rfl (fun _ hs => cells_nth (hs.at (i := 0) rfl) ⟨rfl, ⟨rfl, ⟨rfl, ⟨rfl, trivial⟩⟩⟩⟩)) ?_
                  refine RunG.still rfl rfl rfl rfl (Still.move rfl rfl) ?_
                  refine RunG.still rfl rfl rfl rfl (Still.move rfl rfl) ?_
                  refine RunG.still rfl rfl rfl rfl (Still.move rfl rfl) ?_
                  refine RunG.still rfl rfl rfl rfl (Still.indexOwn rfl rfl rfl Tryd.underlying41 Tryd.sizeOf3 (fun _ hs => hs.own (i := 2) rfl) (by omega)) ?_
                  refine RunG.still rfl rfl rfl rfl (Still.load rfl rfl Tryd.isAgg3 (fun w hs => own_at (hs.own (i := 2) rfl) (nints_get hq4))) ?_
                  refine RunG.still rfl rfl rfl rfl (Still.indexOwn rfl rfl rfl Tryd.underlying41 Tryd.sizeOf3 (fun _ hs => hs.own (i := 1) rfl) (by omega)) ?_
                  refine RunG.still rfl rfl rfl rfl (Still.load rfl rfl Tryd.isAgg3 (fun w hs => own_at (hs.own (i := 1) rfl) (ints_get (getD_get' (by omega))))) ?_
                  refine RunG.grows rfl rfl rfl rfl (Grows.call (vs := #[_]) rfl rfl Tryd.call25 (fun w hs => gl_sign _ w)) (fun _ _ => ?_)
                  refine RunG.still rfl rfl rfl rfl (Still.neg rfl rfl (fits64 (by omega) (by omega))) ?_
                  refine RunG.still rfl rfl rfl rfl (Still.mul rfl rfl rfl (fits64 (by omega) (by omega))) ?_
                  refine RunG.done ?_
                  show RunL _ _ _ [_] _ _
                  refine RunL.still rfl rfl rfl (Still.assign rfl rfl) ?_
                  refine RunL.nil ?_
                  refine Ends.then ?_
                  refine RunC.seq ?_
                  refine RunC.seq ?_
                  refine RunC.region ?_
                  refine RunL.still rfl rfl rfl (Still.move rfl rfl) ?_
                  refine RunL.still rfl rfl rfl (Still.fieldAddrL (off := 0) (off' := 0) rfl rfl Tryd.underlying36 rfl Tryd.sizeOf3 rfl) ?_
                  refine RunL.still rfl rfl rfl (Still.load rfl rfl Tryd.isAgg3 (fun _ hs => cell_nth (hs.at (i := 0) rfl) rfl)) ?_
                  refine RunL.still rfl rfl rfl (Still.indexOwnI (m := (fAt g u f).tet.toNat) rfl rfl rfl Tryd.underlying41 Tryd.sizeOf3 (fun _ hs => hs.own (i := 1) rfl) (by omega) (by omega)) ?_
                  refine RunL.still rfl rfl rfl (Still.load rfl rfl Tryd.isAgg3 (fun w hs => own_at (hs.own (i := 1) rfl) (ints_get (getD_get' (by omega))))) ?_
                  refine RunL.still rfl rfl rfl (Still.eql rfl rfl rfl) ?_
                  refine RunL.nil ?_
                  refine Ends.then ?_
                  refine RunC.cond rfl (fun h74 => ?_) (fun h74 => ?_)
                  · have h74 := of_decide_eq_true h74
                    refine RunC.seq ?_
                    refine RunC.region ?_
                    refine RunL.still rfl rfl rfl (Still.move rfl rfl) ?_
                    refine RunL.still rfl rfl rfl (Still.fieldAddrL (off := 0) (off' := 0) rfl rfl Tryd.underlying36 rfl Tryd.sizeOf3 rfl) ?_
                    refine RunL.still rfl rfl rfl (Still.load rfl rfl Tryd.isAgg3 (fun _ hs => cell_nth (hs.at (i := 0) rfl) rfl)) ?_
                    refine RunL.still rfl rfl rfl (Still.move rfl rfl) ?_
                    refine RunL.still rfl rfl rfl (Still.indexOwnI (m := (fAt g u f).tet.toNat) rfl rfl rfl Tryd.underlying41 Tryd.sizeOf3 (fun _ hs => hs.own (i := 1) rfl) (by omega) (by omega)) ?_
                    refine RunL.does0 rfl rfl (Does.storeOwn1 (xs' := (ints (q.1.set (fAt g u f).tet.toNat (-sgnP (fAt g u f).p * q.1.getD u 0)))) rfl rfl rfl rfl (i := 1) rfl Tryd.sizeOf3 rfl (by simp; omega) (ints_set _ _ _)) (fun _ _ => ?_)
                    refine RunL.nil ?_
                    refine Ends.then ?_
                    refine RunC.region ?_
                    refine RunL.still rfl rfl rfl (Still.move rfl rfl) ?_
                    refine RunL.still rfl rfl rfl (Still.fieldAddrL (off := 0) (off' := 0) rfl rfl Tryd.underlying36 rfl Tryd.sizeOf3 rfl) ?_
                    refine RunL.still rfl rfl rfl (Still.load rfl rfl Tryd.isAgg3 (fun _ hs => cell_nth (hs.at (i := 0) rfl) rfl)) ?_
                    refine RunL.grows rfl rfl rfl (Grows.slice1 rfl rfl Tryd.underlying41 Tryd.sizeOf3 rfl Tryd.zeroValue3 (by decide)) (fun b83 _ => ?_)
                    refine RunL.does rfl rfl rfl (Does.appendTo (n' := (q.2.length + 1)) (xs' := (nints (q.2 ++ [(fAt g u f).tet.toNat]))) (news := [_]) rfl rfl rfl rfl (i := 3) rfl Tryd.underlying41 (by kernel_rfl : (_ : Option _) = some (some (.int .i64 0), 1, 8)) rfl rfl (fun _ hs => cells_nth (hs.at (i := 0) rfl) ⟨rfl, trivial⟩) rfl rfl (by omega) (by omega) (rfl) ((congrArg (fun z => _ ++ [iv z]) (by omega)).trans (nints_snoc _ _))) (fun v84 hv84 => ?_)
                    refine RunL.still rfl rfl rfl (Still.assign rfl rfl) ?_
                    refine RunL.nil ?_
                    refine Ends.then ?_
                    refine RunC.seq ?_
                    refine RunC.region ?_
                    refine RunL.still rfl rfl rfl (Still.move rfl rfl) ?_
                    refine RunL.still rfl rfl rfl (Still.fieldAddrL (off := 0) (off' := 0) rfl rfl Tryd.underlying36 rfl Tryd.sizeOf3 rfl) ?_
                    refine RunL.still rfl rfl rfl (Still.load rfl rfl Tryd.isAgg3 (fun _ hs => cell_nth (hs.at (i := 1) rfl) rfl)) ?_
                    refine RunL.still rfl rfl rfl (Still.indexOwnI (m := (fAt g u f).tet.toNat) rfl rfl rfl Tryd.underlying41 Tryd.sizeOf3 (fun _ hs => hs.own (i := 2) rfl) (by omega) (by omega)) ?_
                    refine RunL.still rfl rfl rfl (Still.load rfl rfl Tryd.isAgg3 (fun w hs => own_at (hs.own (i := 2) rfl) (ints_get (getD_get' (by first | omega | (simp; omega)))))) ?_
                    refine RunL.still rfl rfl rfl (Still.move rfl rfl) ?_
                    refine RunL.still rfl rfl rfl (Still.neq rfl rfl rfl) ?_
                    refine RunL.nil ?_
                    refine Ends.then ?_
                    refine RunC.cond rfl (fun h91 => ?_) (fun h91 => ?_)
                    · have h91 := of_decide_eq_true h91
                      refine RunC.seq ?_
                      refine RunC.region ?_
                      refine RunL.still rfl rfl rfl (Still.assign rfl rfl) ?_
                      refine RunL.still rfl rfl rfl (Still.assign rfl rfl) ?_
                      refine RunL.still rfl rfl rfl (Still.assign rfl rfl) ?_
                      refine RunL.nil ?_
                      refine Ends.then ?_
                      refine RunC.ret ?_
                      refine Ends.block_ret ?_
                      refine Ends.then_ret ?_
                      refine Ends.then_ret ?_
                      refine Ends.block_ret ?_
                      refine Ends.block_ret ?_
                      refine Ends.then_ret ?_
                      refine Ends.then_ret ?_
                      refine Ends.block_ret ?_
                      refine Ends.block_ret ?_
                      refine Ends.then_ret ?_
                      refine Ends.then_ret ?_
                      refine Ends.block_ret ?_
                      refine Ends.then_ret ?_
                      refine Ends.leave (.inl rfl) (fun _ _ ok => results3 Tryd.results16 (Holds.tmp rfl) (Holds.tmp rfl) (Holds.tmp rfl) ok) (fun w5 hs => ?_)
                      exact absurd (getD_set_self' (by omega)) h91
                    · have h91 := of_decide_eq_false h91
                      refine RunC.skip ?_
                      refine Ends.block ?_
                      refine Ends.then ?_
                      refine RunC.region ?_
                      refine RunL.still rfl rfl rfl (Still.add rfl rfl rfl (fits64 (by omega) (by omega))) ?_
                      refine RunL.still rfl rfl rfl (Still.move rfl rfl) ?_
                      refine RunL.nil ?_
                      refine Ends.again (v84, f + 1, (q.1.set (fAt g u f).tet.toNat (-sgnP (fAt g u f).p * q.1.getD u 0), q.2 ++ [(fAt g u f).tet.toNat])) ?_ ?_ (Fr.Sub.app ?_ ?_) ?_
                      · exact ⟨by show f + 1 ≤ 4; omega, oTo_snoc hT (oFace_new h56 h74)⟩
                      · show 4 - (f + 1) < 4 - f; omega
                      · exact Fr.Sub.cons rfl (Fr.Sub.cons rfl (Fr.Sub.nil _))
                      · exact Fr.Sub.cons rfl (Fr.Sub.cons rfl (Fr.Sub.cons rfl (Fr.Sub.cons rfl (Fr.Sub.cons rfl (Fr.Sub.cons rfl (Fr.Sub.nil _))))))
                      · exact HSub.pick 2 rfl (HSub.pick 2 (by simp only [List.length_append, List.length_singleton]; rfl) (HSub.pick 2 rfl (HSub.nil _)))
                  · have h74 := of_decide_eq_false h74
                    refine RunC.skip ?_
                    refine Ends.then ?_
                    refine RunC.seq ?_
                    refine RunC.region ?_
                    refine RunL.still rfl rfl rfl (Still.move rfl rfl) ?_
                    refine RunL.still rfl rfl rfl (Still.fieldAddrL (off := 0) (off' := 0) rfl rfl Tryd.underlying36 rfl Tryd.sizeOf3 rfl) ?_
                    refine RunL.still rfl rfl rfl (Still.load rfl rfl Tryd.isAgg3 (fun _ hs => cell_nth (hs.at (i := 0) rfl) rfl)) ?_
                    refine RunL.still rfl rfl rfl (Still.indexOwnI (m := (fAt g u f).tet.toNat) rfl rfl rfl Tryd.underlying41 Tryd.sizeOf3 (fun _ hs => hs.own (i := 1) rfl) (by omega) (by omega)) ?_
                    refine RunL.still rfl rfl rfl (Still.load rfl rfl Tryd.isAgg3 (fun w hs => own_at (hs.own (i := 1) rfl) (ints_get (getD_get' (by first | omega | (simp; omega)))))) ?_
                    refine RunL.still rfl rfl rfl (Still.move rfl rfl) ?_
                    refine RunL.still rfl rfl rfl (Still.neq rfl rfl rfl) ?_
                    refine RunL.nil ?_
                    refine Ends.then ?_
                    refine RunC.cond rfl (fun h91 => ?_) (fun h91 => ?_)
                    · have h91 := of_decide_eq_true h91
                      refine RunC.seq ?_
                      refine RunC.region ?_
                      refine RunL.still rfl rfl rfl (Still.assign rfl rfl) ?_
                      refine RunL.still rfl rfl rfl (Still.assign rfl rfl) ?_
                      refine RunL.still rfl rfl rfl (Still.assign rfl rfl) ?_
                      refine RunL.nil ?_
                      refine Ends.then ?_
                      refine RunC.ret ?_
                      refine Ends.block_ret ?_
                      refine Ends.then_ret ?_
                      refine Ends.then_ret ?_
                      refine Ends.block_ret ?_
                      refine Ends.block_ret ?_
                      refine Ends.then_ret ?_
                      refine Ends.then_ret ?_
                      refine Ends.block_ret ?_
                      refine Ends.block_ret ?_
                      refine Ends.then_ret ?_
                      refine Ends.then_ret ?_
                      refine Ends.block_ret ?_
                      refine Ends.then_ret ?_
                      have hn4 := oTo_none4 hf4 hT (oFace_bad h56 h74 h91)
                      obtain ⟨k, rfl⟩ : ∃ m, k = m + 1 := ⟨k - 1, by have := (List.getElem?_eq_some_iff.1 hu).1; omega⟩
                      have hn := oriG_none (g := g) (t := t + 1) (by omega) (by rw [oAll_new hA hge, ← hM, oBfs_step hu, hn4]; rfl)
                      refine Ends.leave (.inl rfl) (fun _ _ ok => results3 Tryd.results16 (Holds.tmp rfl) (Holds.tmp rfl) (Holds.tmp rfl) ok) (fun w6 hs => ?_)
                      exact Ret.intro 0 trivial (by rw [oriV_none hn]) (by rw [oriH_none hn]; exact HSub.nil _) hs
                    · have h91 := of_decide_eq_false h91
                      refine RunC.skip ?_
                      refine Ends.block ?_
                      refine Ends.then ?_
                      refine RunC.region ?_
                      refine RunL.still rfl rfl rfl (Still.add rfl rfl rfl (fits64 (by omega) (by omega))) ?_
                      refine RunL.still rfl rfl rfl (Still.move rfl rfl) ?_
                      refine RunL.nil ?_
                      refine Ends.again (v, f + 1, q) ?_ ?_ (Fr.Sub.app ?_ ?_) ?_
                      · exact ⟨by show f + 1 ≤ 4; omega, oTo_snoc hT (oFace_same h56 h74 (Decidable.not_not.1 h91))⟩
                      · show 4 - (f + 1) < 4 - f; omega
                      · exact Fr.Sub.cons rfl (Fr.Sub.cons rfl (Fr.Sub.nil _))
                      · exact Fr.Sub.cons rfl (Fr.Sub.cons rfl (Fr.Sub.cons rfl (Fr.Sub.cons rfl (Fr.Sub.cons rfl (Fr.Sub.cons rfl (Fr.Sub.nil _))))))
                      · exact HSub.pick 1 rfl (HSub.pick 1 rfl (HSub.pick 1 rfl (HSub.nil _)))
              · have h52 := of_decide_eq_false h52
                obtain rfl : f = 4 := by omega
                refine RunC.exit ?_
                refine Ends.then_exit ?_
                refine Ends.then_exit ?_
                refine Ends.block_exit ?_
                refine Ends.block ?_
                refine Ends.then ?_
                refine RunC.region ?_
                refine RunL.still rfl rfl rfl (Still.move rfl rfl) ?_
                refine RunL.still rfl rfl rfl (Still.add rfl rfl rfl (fits64 (by omega) (by omega))) ?_
                refine RunL.still rfl rfl rfl (Still.assign rfl rfl) ?_
                refine RunL.nil ?_
                obtain ⟨k, rfl⟩ : ∃ m, k = m + 1 := ⟨k - 1, by have := (List.getElem?_eq_some_iff.1 hu).1; omega⟩
                refine Ends.again (v, q, i + 1, k) ?_ ?_ (Fr.Sub.app ?_ ?_) ?_
                · exact ⟨hO4, by rw [← hM, oBfs_step hu, hT]; rfl, by show i + 1 + k = _; omega⟩
                · exact Nat.lt_succ_self _
                · exact Fr.Sub.cons rfl (Fr.Sub.cons rfl (Fr.Sub.nil _))
                · exact Fr.Sub.cons rfl (Fr.Sub.cons rfl (Fr.Sub.cons rfl (Fr.Sub.cons rfl (Fr.Sub.nil _))))
                · exact HSub.pick 0 rfl (HSub.pick 0 rfl (HSub.pick 0 rfl (HSub.nil _)))
        · have h40 := of_decide_eq_false h40
          refine RunC.exit ?_
          refine Ends.then_exit ?_
          refine Ends.then_exit ?_
          refine Ends.block_exit ?_
          refine Ends.block ?_
          refine Ends.then ?_
          refine RunC.region ?_
          refine RunL.still rfl rfl rfl (Still.add rfl rfl rfl (fits64 (by omega) (by omega))) ?_
          refine RunL.still rfl rfl rfl (Still.move rfl rfl) ?_
          refine RunL.nil ?_
          refine Ends.again (t + 1, s.1) ?_ ?_ (Fr.Sub.app ?_ ?_) ?_
          · exact ⟨by show t + 1 ≤ _; omega, by rw [oAll_new hA hge, ← hM, oBfs_done (by omega)]; rfl⟩
          · show _ - (t + 1) < _ - t; omega
          · exact Fr.Sub.cons rfl (Fr.Sub.nil _)
          · exact Fr.Sub.cons rfl (Fr.Sub.cons rfl (Fr.Sub.cons rfl (Fr.Sub.nil _)))
          · exact HSub.pick 0 rfl (HSub.pick 1 rfl (HSub.nil _))
    · have h25 := of_decide_eq_false h25
      obtain rfl : t = g.length := by omega
      refine RunC.exit ?_
      refine Ends.then_exit ?_
      refine Ends.then_exit ?_
      refine Ends.block_exit ?_
      refine Ends.then ?_
      refine RunC.seq ?_
      refine RunC.region ?_
      refine RunL.still rfl rfl rfl (Still.move rfl rfl) ?_
      refine RunL.still rfl rfl rfl (Still.assign rfl rfl) ?_
      refine RunL.still rfl rfl rfl (Still.assign rfl rfl) ?_
      refine RunL.still rfl rfl rfl (Still.assign rfl rfl) ?_
      refine RunL.nil ?_
      refine Ends.then ?_
      refine RunC.ret ?_
      refine Ends.leave (.inl rfl) (fun _ _ ok => results3 Tryd.results16 (Holds.tmp rfl) (Holds.tmp rfl) (Holds.tmp rfl) ok) (fun w7 hs => ?_)
      exact Ret.intro b21 trivial (by rw [oriV_some hA]; try rfl) (by rw [oriH_some hA]; exact HSub.pick 0 rfl (HSub.nil _)) hs

end Go.Proofs
/- Unions of gluings: contracts of both texts. -/
namespace Go.Proofs
open Go Go.V
set_option maxRecDepth 20000
theorem gl_Clone_some (B A : Addr) (cap : Nat) (g : Glu) (w : World) (hg : GluAt w (some B) A g) (h1000 : g.length ≤ 1000) : Gives Tryd.prog 42 #[.slice (some B) g.length cap] w Nil (fun v : Value => Shape v g.length) (fun v => v) (fun v => [HL.own 37 20 v g.length (g.flatMap encT)]) := by
  refine fn_of_run (S := Nil) (args := [.slice (some B) g.length cap]) (n := 8) (L := []) Tryd.func42 rfl Tryd.ntmps42 (Nat.le_of_ble_eq_true rfl) (Sym.nil _ _) ?_
  change RunC _ _ _ [(0, _)] _
  refine RunC.seq ?_
  refine RunC.region ?_
  refine RunL.still rfl rfl rfl (Still.assign rfl rfl) ?_
  refine RunL.nil ?_
  refine Ends.then ?_
  refine RunC.seq ?_
  refine RunC.seq ?_
  refine RunC.region ?_
  refine RunL.still rfl rfl rfl (Still.move rfl rfl) ?_
  refine RunL.still rfl rfl rfl (Still.eqlNil rfl rfl rfl Tryd.underlying31) ?_
  refine RunL.nil ?_
  refine Ends.then ?_
  refine RunC.cond rfl (fun h4 => ?_) (fun h4 => ?_)
  · skip
    exact absurd h4 (by simp)
  · skip
    refine RunC.skip ?_
    refine Ends.then ?_
    refine RunC.seq ?_
    refine RunC.region ?_
    refine RunL.grows rfl rfl rfl (Grows.empty rfl Tryd.underlying31 Tryd.sizeOf37 Tryd.zeroValue37) (fun b5 _ => ?_)
    refine RunL.still rfl rfl rfl (Still.move rfl rfl) ?_
    refine RunL.does rfl rfl rfl (Does.appendAny (n' := g.length) (xs' := (g.flatMap encT)) (news := (g.flatMap encT)) rfl rfl rfl rfl (fun h0 => hg.base h0) (i := 0) rfl Tryd.underlying31 (by kernel_rfl : Tryd.prog.info? 37 = some Tryd.t37) (by kernel_rfl : (_ : Option _) = some (some (.agg #[.int .i64 0, .int .i64 0, .int .i64 0, .int .i64 0, .int .i64 0, .int .i64 0, .int .i64 0, .int .i64 0, .int .i64 0, .int .i64 0, .int .i64 0, .int .i64 0, .int .i64 0, .int .i64 0, .int .i64 0, .int .i64 0, .int .i64 0, .int .i64 0, .int .i64 0, .int .i64 0]), 20, 160)) rfl rfl (fun w hs => hg.cells.base0 hs) (flat_len encT_len _) (encT_one _) (by omega) (by omega) (Nat.zero_add _) (rfl)) (fun v7 hv7 => ?_)
    refine RunL.still rfl rfl rfl (Still.assign rfl rfl) ?_
    refine RunL.nil ?_
    refine Ends.then ?_
    refine RunC.ret ?_
    refine Ends.leave (.inl rfl) (fun _ _ ok => results1 Tryd.results42 (Holds.tmp rfl) ok) (fun w1 hs => ?_)
    exact Ret.intro v7 (own_shape (hs.own (i := 0) rfl)) rfl (HSub.pick 0 rfl (HSub.nil _)) hs

theorem gl_Clone_none (cap : Nat) (g : Glu) (w : World) (h0 : g = []) : Gives Tryd.prog 42 #[.slice none g.length cap] w Nil (fun v : Value => Shape v g.length) (fun v => v) (fun v => [HL.own 37 20 v g.length (g.flatMap encT)]) := by
  refine fn_of_run (S := Nil) (args := [.slice none g.length cap]) (n := 8) (L := []) Tryd.func42 rfl Tryd.ntmps42 (Nat.le_of_ble_eq_true rfl) (Sym.nil _ _) ?_
  change RunC _ _ _ [(0, _)] _
  refine RunC.seq ?_
  refine RunC.region ?_
  refine RunL.still rfl rfl rfl (Still.assign rfl rfl) ?_
  refine RunL.nil ?_
  refine Ends.then ?_
  refine RunC.seq ?_
  refine RunC.seq ?_
  refine RunC.region ?_
  refine RunL.still rfl rfl rfl (Still.move rfl rfl) ?_
  refine RunL.still rfl rfl rfl (Still.eqlNil rfl rfl rfl Tryd.underlying31) ?_
  refine RunL.nil ?_
  refine Ends.then ?_
  refine RunC.cond rfl (fun h4 => ?_) (fun h4 => ?_)
  · skip
    refine RunC.seq ?_
    refine RunC.region ?_
    refine RunL.still rfl rfl rfl (Still.assign rfl rfl) ?_
    refine RunL.nil ?_
    refine Ends.then ?_
    refine RunC.ret ?_
    refine Ends.then_ret ?_
    refine Ends.leave (.inl rfl) (fun _ _ ok => results1 Tryd.results42 (Holds.tmp rfl) ok) (fun w1 hs => ?_)
    exact Ret.intro (.slice none 0 0) (by rw [h0]; exact ⟨none, 0, rfl, fun h => absurd h (by decide)⟩) rfl (HSub.pick 0 (by rw [h0]; rfl) (HSub.nil _)) (hs.own_nil 37 20)
  · skip
    exact absurd h4 (by decide)

theorem gl_Clone (base : Option Addr) (A : Addr) (cap : Nat) (g : Glu) (w : World) (hg : GluAt w base A g) (h1000 : g.length ≤ 1000) : Gives Tryd.prog 42 #[.slice base g.length cap] w Nil (fun v : Value => Shape v g.length) (fun v => v) (fun v => [HL.own 37 20 v g.length (g.flatMap encT)]) := by
  cases base with
  | some B => exact gl_Clone_some B A cap g w hg h1000
  | none =>
    refine gl_Clone_none cap g w ?_
    rcases Nat.eq_zero_or_pos g.length with h0 | h0
    · exact List.length_eq_zero_iff.1 h0
    · exact absurd (hg.base h0) (by simp)

theorem gl_shifted (base : Option Addr) (A : Addr) (cap : Nat) (g : Glu) (k : Nat) (w : World) (hg : GluAt w base A g) (hk : k ≤ 1000) (hok : okG g = true) : Gives Tryd.prog 43 #[gluV base cap g, iv (k : Int)] w Nil (fun v : Value => Shape v g.length) (fun v => v) (fun v => [HL.own 37 20 v g.length ((g.map fun t => mapF t (shF k)).flatMap encT)]) := by
  have h1000 := okG_len hok
  refine fn_of_run (S := Nil) (args := [gluV base cap g, iv (k : Int)]) (n := 39) (L := []) Tryd.func43 rfl Tryd.ntmps43 (Nat.le_of_ble_eq_true rfl) (Sym.nil _ _) ?_
  change RunC _ _ _ [(0, _), (1, _)] _
  refine RunC.seq ?_
  refine RunC.region ?_
  refine RunL.grows rfl rfl rfl (Grows.box rfl rfl) (fun b2 _ => ?_)
  refine RunL.still rfl rfl rfl (Still.assign rfl rfl) ?_
  refine RunL.nil ?_
  refine Ends.then ?_
  refine RunC.seq ?_
  refine RunC.region ?_
  refine RunL.still rfl rfl rfl (Still.assign rfl rfl) ?_
  refine RunL.own_nil 37 20 ?_
  refine RunL.nil ?_
  refine Ends.then ?_
  refine RunC.seq ?_
  refine RunC.seq ?_
  refine RunC.region ?_
  refine RunL.still rfl rfl rfl (Still.fieldAddrL (off := 0) (off' := 0) rfl rfl Tryd.underlying33 rfl Tryd.sizeOf31 rfl) ?_
  refine RunL.still rfl rfl rfl (Still.load rfl rfl Tryd.isAgg31 (fun _ hs => cell_nth (hs.at (i := 1) rfl) rfl)) ?_
  refine RunL.still rfl rfl rfl (Still.lenSlice rfl rfl Tryd.underlying31) ?_
  refine RunL.still rfl rfl rfl (Still.move rfl rfl) ?_
  refine RunL.nil ?_
  refine Ends.then ?_
  refine RunC.block ?_
  refine RunC.loop2 (γ := Value × Nat) (keep := [(1, _), (10, _), (11, _)]) (hkeep := [_]) (fun (v, t) => t ≤ g.length) (fun (v, t) => g.length - t) (fun (v, t) => [(5, v), (12, iv t)]) (fun (v, t) => [HL.own 37 20 v t (((g.take t).map (fun t => mapF t (shF k))).flatMap encT)]) (.slice none 0 0, 0) (by omega) (Fr.Sub.cons rfl (Fr.Sub.cons rfl (Fr.Sub.nil _))) (Fr.Sub.cons rfl (Fr.Sub.cons rfl (Fr.Sub.cons rfl (Fr.Sub.nil _)))) (HSub.pick 0 rfl (HSub.pick 0 rfl (HSub.nil _))) ?_
  rintro ⟨v, t⟩ ht
  have ht : t ≤ g.length := ht
  refine RunC.seq ?_
  refine RunC.region ?_
  refine RunL.still rfl rfl rfl (Still.lss rfl rfl rfl) ?_
  refine RunL.nil ?_
  refine Ends.then ?_
  refine RunC.seq ?_
  refine RunC.cond rfl (fun h13 => ?_) (fun h13 => ?_)
  · have h13 := of_decide_eq_true h13
    have htN : t < g.length := by omega
    obtain ⟨x, hx⟩ := get_of_lt (l := g) (i := t) htN
    refine RunC.skip ?_
    refine Ends.then ?_
    refine RunC.seq ?_
    refine RunC.block ?_
    refine RunC.seq ?_
    refine RunC.region ?_
    refine RunL.still rfl rfl rfl (Still.indexSliceN rfl rfl rfl Tryd.underlying31 Tryd.sizeOf37 (hg.base (by omega)) (by omega)) ?_
    refine RunL.still rfl rfl rfl (Still.loads rfl rfl Tryd.isAgg37 Tryd.sizeOf37 (vs := [iv x.f0.tet, iv x.f0.p.a0, iv x.f0.p.a1, iv x.f0.p.a2, iv x.f0.p.a3, iv x.f1.tet, iv x.f1.p.a0, iv x.f1.p.a1, iv x.f1.p.a2, iv x.f1.p.a3, iv x.f2.tet, iv x.f2.p.a0, iv x.f2.p.a1, iv x.f2.p.a2, iv x.f2.p.a3, iv x.f3.tet, iv x.f3.p.a0, iv x.f3.p.a1, iv x.f3.p.a2, iv x.f3.p.a3]) rfl (fun _ hs => (hg.sym hs).cell t x hx)) ?_
    refine RunL.grows rfl rfl rfl (Grows.alloc rfl Tryd.zeroValue37) (fun b7 _ => ?_)
    refine RunL.does0 rfl rfl (Does.store rfl rfl rfl (i := 0) rfl Tryd.sizeOf37 rfl (rfl) rfl) (fun _ _ => ?_)
    refine RunL.conv (fun _ hs => hs.re 0 rfl (show _ = HL.obj b7 (.cells (ttA x) 37 (0, 0)) from congrArg (fun z => HL.obj b7 (.cells z 37 (0, 0))) (putT x))) ?_
    refine RunL.nil ?_
    refine Ends.then ?_
    refine RunC.seq ?_
    refine RunC.seq ?_
    refine RunC.region ?_
    refine RunL.still rfl rfl rfl (Still.move rfl rfl) ?_
    refine RunL.nil ?_
    refine Ends.then ?_
    refine RunC.block ?_
    refine RunC.loop2 (γ := Nat) (keep := [(1, _), (5, _), (7, _), (10, _), (11, _), (12, _)]) (hkeep := [_, _]) (fun f => f ≤ 4) (fun f => 4 - f) (fun f => [(16, iv f)]) (fun f => [HL.obj b7 (.cells (ttA (chTo (shF k) x f)) 37 (0, 0))]) 0 (by omega) (Fr.Sub.cons rfl (Fr.Sub.nil _)) (Fr.Sub.cons rfl (Fr.Sub.cons rfl (Fr.Sub.cons rfl (Fr.Sub.cons rfl (Fr.Sub.cons rfl (Fr.Sub.cons rfl (Fr.Sub.nil _))))))) (HSub.pick 0 rfl (HSub.pick 0 rfl (HSub.pick 0 rfl (HSub.nil _)))) ?_
    rintro f hf
    refine RunC.seq ?_
    refine RunC.region ?_
    refine RunL.still rfl rfl rfl (Still.lss rfl rfl rfl) ?_
    refine RunL.nil ?_
    refine Ends.then ?_
    refine RunC.seq ?_
    refine RunC.cond rfl (fun h17 => ?_) (fun h17 => ?_)
    · have h17 := of_decide_eq_true h17
      have hf4 : f < 4 := by omega
      have hxf := okG_tet hok htN hf4
      rw [fAt_of hx] at hxf
      refine RunC.skip ?_
      refine Ends.then ?_
      refine RunC.seq ?_
      refine RunC.block ?_
      refine RunC.seq ?_
      refine RunC.region ?_
      refine RunL.still rfl rfl rfl (Still.move rfl rfl) ?_
      refine RunL.still rfl rfl rfl (Still.assign rfl rfl) ?_
      refine RunL.nil ?_
      refine Ends.then ?_
      refine RunC.seq ?_
      refine RunC.region ?_
      refine RunL.still rfl rfl rfl (Still.move rfl rfl) ?_
      refine RunL.still rfl rfl rfl (Still.indexArrNL rfl rfl rfl Tryd.underlying37 Tryd.sizeOf36 (by omega)) ?_
      refine RunL.still rfl rfl rfl (Still.fieldAddrL rfl rfl Tryd.underlying36 rfl Tryd.sizeOf3 rfl) ?_
      refine RunL.still rfl rfl rfl (Still.load (v := iv (x.at f).tet) rfl rfl Tryd.isAgg3 (fun _ hs => cell_nth (hs.at (i := 0) rfl) (nth_chTo _ _ hf4))) ?_
      refine RunL.still rfl rfl rfl (Still.geq rfl rfl rfl) ?_
      refine RunL.nil ?_
      refine Ends.then ?_
      refine RunC.cond rfl (fun h23 => ?_) (fun h23 => ?_)
      · have h23 := of_decide_eq_true h23
        refine RunC.region ?_
        refine RunL.still rfl rfl rfl (Still.move rfl rfl) ?_
        refine RunL.still rfl rfl rfl (Still.indexArrNL rfl rfl rfl Tryd.underlying37 Tryd.sizeOf36 (by omega)) ?_
        refine RunL.still rfl rfl rfl (Still.fieldAddrL rfl rfl Tryd.underlying36 rfl Tryd.sizeOf3 rfl) ?_
        refine RunL.still rfl rfl rfl (Still.load (v := iv (x.at f).tet) rfl rfl Tryd.isAgg3 (fun _ hs => cell_nth (hs.at (i := 0) rfl) (nth_chTo _ _ hf4))) ?_
        refine RunL.still rfl rfl rfl (Still.move rfl rfl) ?_
        refine RunL.still rfl rfl rfl (Still.add rfl rfl rfl (fits64 (by omega) (by omega))) ?_
        refine RunL.still rfl rfl rfl (Still.indexArrNL rfl rfl rfl Tryd.underlying37 Tryd.sizeOf36 (by omega)) ?_
        refine RunL.still rfl rfl rfl (Still.fieldAddrL rfl rfl Tryd.underlying36 rfl Tryd.sizeOf3 rfl) ?_
        refine RunL.does0 rfl rfl (Does.store1 rfl rfl rfl (i := 0) rfl Tryd.sizeOf3 rfl (Nat.ble_eq_true_of_le (show 0 + f * 5 + 0 + 1 ≤ 20 by omega))) (fun _ _ => ?_)
        refine RunL.conv (fun _ hs => hs.re 0 rfl (show _ = HL.obj b7 (.cells (ttA (chTo (shF k) x (f + 1))) 37 (0, 0)) from congrArg (fun z => HL.obj b7 (.cells z 37 (0, 0))) (chTo_tet hf4 (by rw [shF, if_pos h23])))) ?_
        refine RunL.nil ?_
        refine Ends.block ?_
        refine Ends.then ?_
        refine RunC.region ?_
        refine RunL.still rfl rfl rfl (Still.add rfl rfl rfl (fits64 (by omega) (by omega))) ?_
        refine RunL.still rfl rfl rfl (Still.move rfl rfl) ?_
        refine RunL.nil ?_
        refine Ends.again (f + 1) ?_ ?_ (Fr.Sub.app ?_ ?_) ?_
        · show _; omega
        · show _ < _; omega
        · exact Fr.Sub.cons rfl (Fr.Sub.nil _)
        · exact Fr.Sub.cons rfl (Fr.Sub.cons rfl (Fr.Sub.cons rfl (Fr.Sub.cons rfl (Fr.Sub.cons rfl (Fr.Sub.cons rfl (Fr.Sub.nil _))))))
        · exact HSub.pick 0 rfl (HSub.pick 0 rfl (HSub.pick 0 rfl (HSub.nil _)))
      · have h23 := of_decide_eq_false h23
        refine RunC.skip ?_
        refine Ends.block ?_
        refine Ends.then ?_
        refine RunC.region ?_
        refine RunL.still rfl rfl rfl (Still.add rfl rfl rfl (fits64 (by omega) (by omega))) ?_
        refine RunL.still rfl rfl rfl (Still.move rfl rfl) ?_
        refine RunL.nil ?_
        refine Ends.again (f + 1) ?_ ?_ (Fr.Sub.app ?_ ?_) ?_
        · show _; omega
        · show _ < _; omega
        · exact Fr.Sub.cons rfl (Fr.Sub.nil _)
        · exact Fr.Sub.cons rfl (Fr.Sub.cons rfl (Fr.Sub.cons rfl (Fr.Sub.cons rfl (Fr.Sub.cons rfl (Fr.Sub.cons rfl (Fr.Sub.nil _))))))
        · exact HSub.pick 0 (by rw [chTo_keep hf4 (by rw [shF, if_neg h23])]; rfl) (HSub.pick 0 rfl (HSub.pick 0 rfl (HSub.nil _)))
    · have h17 := of_decide_eq_false h17
      obtain rfl : f = 4 := by omega
      refine RunC.exit ?_
      refine Ends.then_exit ?_
      refine Ends.then_exit ?_
      refine Ends.block_exit ?_
      refine Ends.then ?_
      refine RunC.conv (fun _ hs => hs.re 0 rfl (show _ = HL.obj b7 (.cells (ttV (mapF x (shF k))).cells 37 (0, 0)) by rw [chTo_four]; rfl)) ?_
      refine RunC.region ?_
      refine RunL.still rfl rfl rfl (Still.move rfl rfl) ?_
      refine RunL.still rfl rfl rfl (Still.loads rfl rfl Tryd.isAgg37 Tryd.sizeOf37 (vs := [_, _, _, _, _, _, _, _, _, _, _, _, _, _, _, _, _, _, _, _]) rfl (fun _ hs => cells_nth (hs.at (i := 0) rfl) ⟨rfl, ⟨rfl, ⟨rfl, ⟨rfl, ⟨rfl, ⟨rfl, ⟨rfl, ⟨rfl, ⟨rfl, ⟨rfl, ⟨rfl, ⟨rfl, ⟨rfl, ⟨rfl, ⟨rfl, ⟨rfl, ⟨rfl, ⟨rfl, ⟨rfl, ⟨rfl, trivial⟩⟩⟩⟩⟩⟩⟩⟩⟩⟩⟩⟩⟩⟩⟩⟩⟩⟩⟩⟩)) ?_
      refine RunL.grows rfl rfl rfl (Grows.slice1 rfl rfl Tryd.underlying31 Tryd.sizeOf37 rfl Tryd.zeroValue37 (by decide)) (fun b35 _ => ?_)
      refine RunL.does rfl rfl rfl (Does.appendTo (n' := (t + 1)) (xs' := ((((g.take t).map (fun t => mapF t (shF k))) ++ [mapF x (shF k)]).flatMap encT)) (news := [_, _, _, _, _, _, _, _, _, _, _, _, _, _, _, _, _, _, _, _]) rfl rfl rfl rfl (i := 2) rfl Tryd.underlying31 (by kernel_rfl : (_ : Option _) = some (some (.agg #[.int .i64 0, .int .i64 0, .int .i64 0, .int .i64 0, .int .i64 0, .int .i64 0, .int .i64 0, .int .i64 0, .int .i64 0, .int .i64 0, .int .i64 0, .int .i64 0, .int .i64 0, .int .i64 0, .int .i64 0, .int .i64 0, .int .i64 0, .int .i64 0, .int .i64 0, .int .i64 0]), 20, 160)) rfl rfl (fun _ hs => cells_nth (hs.at (i := 0) rfl) ⟨rfl, ⟨rfl, ⟨rfl, ⟨rfl, ⟨rfl, ⟨rfl, ⟨rfl, ⟨rfl, ⟨rfl, ⟨rfl, ⟨rfl, ⟨rfl, ⟨rfl, ⟨rfl, ⟨rfl, ⟨rfl, ⟨rfl, ⟨rfl, ⟨rfl, ⟨rfl, trivial⟩⟩⟩⟩⟩⟩⟩⟩⟩⟩⟩⟩⟩⟩⟩⟩⟩⟩⟩⟩) rfl rfl (by omega) (by omega) (rfl) (flatT_snoc _ _)) (fun v36 hv36 => ?_)
      refine RunL.still rfl rfl rfl (Still.assign rfl rfl) ?_
      refine RunL.nil ?_
      refine Ends.block ?_
      refine Ends.then ?_
      refine RunC.region ?_
      refine RunL.still rfl rfl rfl (Still.add rfl rfl rfl (fits64 (by omega) (by omega))) ?_
      refine RunL.still rfl rfl rfl (Still.move rfl rfl) ?_
      refine RunL.nil ?_
      refine Ends.again (v36, t + 1) ?_ ?_ (Fr.Sub.app ?_ ?_) ?_
      · show t + 1 ≤ _; omega
      · show _ - (t + 1) < _ - t; omega
      · exact Fr.Sub.cons rfl (Fr.Sub.cons rfl (Fr.Sub.nil _))
      · exact Fr.Sub.cons rfl (Fr.Sub.cons rfl (Fr.Sub.cons rfl (Fr.Sub.nil _)))
      · exact HSub.pick 2 (by rw [List.take_add_one, hx]; simp only [Option.toList_some, List.map_append, List.map_cons, List.map_nil]; rfl) (HSub.pick 2 rfl (HSub.nil _))
  · have h13 := of_decide_eq_false h13
    obtain rfl : t = g.length := by omega
    refine RunC.exit ?_
    refine Ends.then_exit ?_
    refine Ends.then_exit ?_
    refine Ends.block_exit ?_
    refine Ends.then ?_
    refine RunC.seq ?_
    refine RunC.region ?_
    refine RunL.still rfl rfl rfl (Still.move rfl rfl) ?_
    refine RunL.still rfl rfl rfl (Still.assign rfl rfl) ?_
    refine RunL.nil ?_
    refine Ends.then ?_
    refine RunC.ret ?_
    refine Ends.leave (.inl rfl) (fun _ _ ok => results1 Tryd.results43 (Holds.tmp rfl) ok) (fun w1 hs => ?_)
    exact Ret.intro v (own_shape (hs.own (i := 0) rfl)) rfl (HSub.pick 0 (by show some (HL.own 37 20 v g.length (((g.take g.length).map _).flatMap encT)) = _; rw [List.take_length]) (HSub.nil _)) hs

theorem uniG_len (a b : Glu) : (uniG a b).length = a.length + b.length := by simp [uniG]

theorem gl_Union_ok (ba : Option Addr) (A : Addr) (ca : Nat) (a : Glu) (bb : Option Addr) (B : Addr) (cb : Nat) (b : Glu) (w : World) (hga : GluAt w ba A a) (hgb : GluAt w bb B b) (ha : okG a = true) (hb : okG b = true) (hl : a.length + b.length ≤ 1000) : Gives Tryd.prog 29 #[gluV ba ca a, gluV bb cb b] w Nil (fun q : Option Addr × Nat => OKB q (uniG a b).length) (fun q => .tuple #[gluV q.1 q.2 (uniG a b), iv 0]) (fun q => [ownG q (uniG a b)]) := by
  have a1000 := okG_len ha
  have b1000 := okG_len hb
  refine fn_of_run (S := Nil) (args := [gluV ba ca a, gluV bb cb b]) (n := 36) (L := []) Tryd.func29 rfl Tryd.ntmps29 (Nat.le_of_ble_eq_true rfl) (Sym.nil _ _) ?_
  change RunC _ _ _ [(0, _), (1, _)] _
  refine RunC.seq ?_
  refine RunC.region ?_
  refine RunL.grows rfl rfl rfl (Grows.box rfl rfl) (fun b2 _ => ?_)
  refine RunL.grows rfl rfl rfl (Grows.box rfl rfl) (fun b3 _ => ?_)
  refine RunL.grows rfl rfl rfl (Grows.alloc rfl Tryd.zeroValue33) (fun b4 _ => ?_)
  refine RunL.still rfl rfl rfl (Still.assign rfl rfl) ?_
  refine RunL.nil ?_
  refine Ends.then ?_
  refine RunC.seq ?_
  refine RunC.block ?_
  refine RunC.seq ?_
  refine RunC.region ?_
  refine RunL.still rfl rfl rfl (Still.loads rfl rfl Tryd.isAgg33 Tryd.sizeOf33 (vs := [_]) rfl (fun _ hs => cells_nth (hs.at (i := 2) rfl) ⟨rfl, trivial⟩)) ?_
  refine RunL.grows rfl rfl rfl (Grows.call (vs := #[_]) rfl rfl Tryd.call22 (fun w hs => gl_Check ba A ca a w (hga.sym hs))) (fun _ _ => ?_)
  refine RunL.still rfl rfl rfl (Still.neq rfl rfl rfl) ?_
  refine RunL.still rfl rfl rfl (Still.move rfl rfl) ?_
  refine RunL.split (t := 10) rfl (fun h10 => ?_) (fun h10 => ?_)
  · have h10 := of_decide_eq_true h10
    exact absurd (chkG_ok ha) h10
  · skip
    refine RunL.still rfl rfl rfl (Still.loads rfl rfl Tryd.isAgg33 Tryd.sizeOf33 (vs := [_]) rfl (fun _ hs => cells_nth (hs.at (i := 1) rfl) ⟨rfl, trivial⟩)) ?_
    refine RunL.grows rfl rfl rfl (Grows.call (vs := #[_]) rfl rfl Tryd.call22 (fun w hs => gl_Check bb B cb b w (hgb.sym hs))) (fun _ _ => ?_)
    refine RunL.still rfl rfl rfl (Still.neq rfl rfl rfl) ?_
    refine RunL.still rfl rfl rfl (Still.pickF rfl rfl rfl) ?_
    refine RunL.still rfl rfl rfl (Still.assign rfl rfl) ?_
    refine RunL.nil ?_
    refine Ends.then ?_
    refine RunC.cond rfl (fun h6 => ?_) (fun h6 => ?_)
    · have h6 := of_decide_eq_true h6
      exact absurd (chkG_ok hb) h6
    · skip
      refine RunC.seq ?_
      refine RunC.region ?_
      refine RunL.still rfl rfl rfl (Still.fieldAddrL (off := 0) (off' := 0) rfl rfl Tryd.underlying33 rfl Tryd.sizeOf31 rfl) ?_
      refine RunL.still rfl rfl rfl (Still.load rfl rfl Tryd.isAgg31 (fun _ hs => cell_nth (hs.at (i := 2) rfl) rfl)) ?_
      refine RunL.still rfl rfl rfl (Still.lenSlice rfl rfl Tryd.underlying31) ?_
      refine RunL.still rfl rfl rfl (Still.fieldAddrL (off := 0) (off' := 0) rfl rfl Tryd.underlying33 rfl Tryd.sizeOf31 rfl) ?_
      refine RunL.still rfl rfl rfl (Still.load rfl rfl Tryd.isAgg31 (fun _ hs => cell_nth (hs.at (i := 1) rfl) rfl)) ?_
      refine RunL.still rfl rfl rfl (Still.lenSlice rfl rfl Tryd.underlying31) ?_
      refine RunL.still rfl rfl rfl (Still.add rfl rfl rfl (fits64 (by omega) (by omega))) ?_
      refine RunL.still rfl rfl rfl (Still.gtr rfl rfl rfl) ?_
      refine RunL.still rfl rfl rfl (Still.assign rfl rfl) ?_
      refine RunL.nil ?_
      refine Ends.then ?_
      refine RunC.cond rfl (fun h16 => ?_) (fun h16 => ?_)
      · have h16 := of_decide_eq_true h16
        omega
      · have h16 := of_decide_eq_false h16
        refine RunC.skip ?_
        refine Ends.block ?_
        refine Ends.then ?_
        refine RunC.seq ?_
        refine RunC.draw 7 (.still 0 (.still 1 (.still 3 (.still 4 (.still 5 (.still 6 (.one 2 .done))))))) (by kernel_rfl) (by kernel_rfl) ?_
        refine RunG.still rfl rfl rfl rfl (Still.fieldAddrL (off := 0) (off' := 0) rfl rfl Tryd.underlying33 rfl Tryd.sizeOf31 rfl) ?_
        refine RunG.still rfl rfl rfl rfl (Still.load rfl rfl Tryd.isAgg31 (fun _ hs => cell_nth (hs.at (i := 2) rfl) rfl)) ?_
        refine RunG.still rfl rfl rfl rfl (Still.loads rfl rfl Tryd.isAgg33 Tryd.sizeOf33 (vs := [_]) rfl (fun _ hs => cells_nth (hs.at (i := 1) rfl) ⟨rfl, trivial⟩)) ?_
        refine RunG.still rfl rfl rfl rfl (Still.fieldAddrL (off := 0) (off' := 0) rfl rfl Tryd.underlying33 rfl Tryd.sizeOf31 rfl) ?_
        refine RunG.still rfl rfl rfl rfl (Still.load rfl rfl Tryd.isAgg31 (fun _ hs => cell_nth (hs.at (i := 2) rfl) rfl)) ?_
        refine RunG.still rfl rfl rfl rfl (Still.lenSlice rfl rfl Tryd.underlying31) ?_
        refine RunG.grows rfl rfl rfl rfl (Grows.call (vs := #[_]) rfl rfl Tryd.call42 (fun w hs => gl_Clone ba A ca a w (hga.sym hs) (by omega))) (fun v28 hv28 => ?_)
        refine RunG.done ?_
        show RunL _ _ _ [_, _, _, _, _] _ _
        refine RunL.grows rfl rfl rfl (Grows.call (vs := #[_, _]) rfl rfl Tryd.call43 (fun w hs => gl_shifted bb B cb b a.length w (hgb.sym hs) (by omega) hb)) (fun v33 hv33 => ?_)
        obtain ⟨sb, sc, hvs, hsb⟩ := hv33
        subst hvs
        refine RunL.does rfl rfl rfl (Does.appendAny (n' := (a.length + b.length)) (xs' := ((uniG a b).flatMap encT)) (news := ((b.map fun t => mapF t (shF (a.length : Int))).flatMap encT)) rfl rfl rfl rfl (hsb) (i := 1) rfl Tryd.underlying31 (by kernel_rfl : Tryd.prog.info? 37 = some Tryd.t37) (by kernel_rfl : (_ : Option _) = some (some (.agg #[.int .i64 0, .int .i64 0, .int .i64 0, .int .i64 0, .int .i64 0, .int .i64 0, .int .i64 0, .int .i64 0, .int .i64 0, .int .i64 0, .int .i64 0, .int .i64 0, .int .i64 0, .int .i64 0, .int .i64 0, .int .i64 0, .int .i64 0, .int .i64 0, .int .i64 0, .int .i64 0]), 20, 160)) rfl rfl (fun w hs => own_all (hs.own (i := 0) rfl)) (by rw [flat_len encT_len, List.length_map]) (encT_one _) (by omega) (by omega) (rfl) ((by rw [uniG, List.flatMap_append]))) (fun v34 hv34 => ?_)
        refine RunL.know (fun _ hs => own_shape (hs.own (i := 1) rfl)) (fun hsh2 => ?_)
        obtain ⟨vb, vc, hvv, hvb⟩ := hsh2
        subst hvv
        refine RunL.still rfl rfl rfl (Still.build_1 (fun x0_0 => .agg #[x0_0]) rfl rfl (fun _ => by kernel_rfl)) ?_
        refine RunL.does0 rfl rfl (Does.store rfl rfl rfl (i := 2) rfl Tryd.sizeOf33 rfl (rfl) rfl) (fun _ _ => ?_)
        refine RunL.still rfl rfl rfl (Still.assign rfl rfl) ?_
        refine RunL.nil ?_
        refine Ends.then ?_
        refine RunC.ret ?_
        skip
        refine Ends.leave (.inl rfl) (fun _ _ ok => results2 Tryd.results29 (Holds.cell rfl (fun _ hs => load_cells (vs := [_]) Tryd.isAgg33 Tryd.sizeOf33 rfl (cells_nth (hs.at (i := 2) rfl) ⟨rfl, trivial⟩))) (Holds.tmp rfl) ok) (fun w1 hs => ?_)
        exact Ret.intro (vb, vc) (by rw [OKB, uniG_len]; exact hvb) (by show _ = Value.tuple #[gluV vb vc (uniG a b), iv 0]; simp only [gluV, uniG_len]; try rfl) (HSub.pick 1 (by rw [ownG, uniG_len]; rfl) (HSub.nil _)) hs

end Go.Proofs
/- Twofold covers and doubles of gluings: contracts of both texts. -/
namespace Go.Proofs
open Go Go.V
set_option maxRecDepth 20000
theorem tw_lo {g : Glu} {t f : Nat} (hok : okG g = true) (ht : t < g.length) (hf : f < 4) (h : 0 ≤ (fAt g t f).tet ∧ sgnP (fAt g t f).p = 1) : twH g.length t f (fAt (uniG g g) t f) = ⟨(fAt g t f).tet + g.length, (fAt g t f).p⟩ := by
  have := okG_tet hok ht hf
  rw [uniG_lo ht, twH, if_pos h, Int.emod_eq_of_lt (by omega) (by omega)]
theorem tw_hi {g : Glu} {t f : Nat} (hok : okG g = true) (ht : t < g.length) (hf : f < 4) (h : 0 ≤ (fAt g t f).tet ∧ sgnP (fAt g t f).p = 1) : twH g.length (t + g.length) f (fAt (uniG g g) (t + g.length) f) = ⟨(fAt g t f).tet, (fAt g t f).p⟩ := by
  have := okG_tet hok ht hf
  have e : shF (g.length : Int) (fAt g t f) = ⟨(fAt g t f).tet + g.length, (fAt g t f).p⟩ := by rw [shF, if_pos h.1]
  rw [uniG_hi ht hf, e, twH, if_pos ⟨by show 0 ≤ _ + _; omega, h.2⟩]
  congr 1
  show ((fAt g t f).tet + g.length + g.length) % (2 * g.length) = _
  rw [show (fAt g t f).tet + (g.length : Int) + g.length = (fAt g t f).tet + 2 * g.length by omega, Int.add_emod_right, Int.emod_eq_of_lt (by omega) (by omega)]
theorem tw_no {g : Glu} {t f : Nat} (ht : t < g.length) (hf : f < 4) (h : ¬ (0 ≤ (fAt g t f).tet ∧ sgnP (fAt g t f).p = 1)) : twH g.length t f (fAt (uniG g g) t f) = fAt (uniG g g) t f ∧ twH g.length (t + g.length) f (fAt (uniG g g) (t + g.length) f) = fAt (uniG g g) (t + g.length) f := by
  constructor
  · rw [uniG_lo ht, twH, if_neg h]
  · rw [uniG_hi ht hf, shF]
    by_cases h0 : 0 ≤ (fAt g t f).tet
    · rw [if_pos h0, twH, if_neg (fun k => h ⟨h0, k.2⟩)]
    · rw [if_neg h0, twH, if_neg h]
theorem db_lo {g : Glu} {t f : Nat} (ht : t < g.length) (h : (fAt g t f).tet < 0) : dbH g.length t f (fAt (uniG g g) t f) = ⟨(t : Int) + g.length, idP⟩ := by
  rw [uniG_lo ht, dbH, if_pos h, Int.emod_eq_of_lt (by omega) (by omega)]
theorem db_hi {g : Glu} {t f : Nat} (ht : t < g.length) (hf : f < 4) (h : (fAt g t f).tet < 0) : dbH g.length (t + g.length) f (fAt (uniG g g) (t + g.length) f) = ⟨(t : Int), idP⟩ := by
  have e : shF (g.length : Int) (fAt g t f) = fAt g t f := by rw [shF, if_neg (by omega)]
  rw [uniG_hi ht hf, e, dbH, if_pos h]
  congr 1
  rw [show ((t + g.length : Nat) : Int) + g.length = t + 2 * g.length by omega, Int.add_emod_right, Int.emod_eq_of_lt (by omega) (by omega)]
theorem db_no {g : Glu} {t f : Nat} (ht : t < g.length) (hf : f < 4) (h : ¬ (fAt g t f).tet < 0) : dbH g.length t f (fAt (uniG g g) t f) = fAt (uniG g g) t f ∧ dbH g.length (t + g.length) f (fAt (uniG g g) (t + g.length) f) = fAt (uniG g g) (t + g.length) f := by
  constructor
  · rw [uniG_lo ht, dbH, if_neg h]
  · rw [uniG_hi ht hf, shF, if_pos (by omega), dbH, if_neg (by show ¬ _ + _ < _; omega)]

theorem gl_Twofold (base : Option Addr) (A : Addr) (cap : Nat) (g : Glu) (w : World) (hg : GluAt w base A g) (hok : okG g = true) (hn : 2 * g.length ≤ 1000) : Gives Tryd.prog 17 #[gluV base cap g] w Nil (fun q : Option Addr × Nat => OKB q (twoG g).length) (fun q => .tuple #[gluV q.1 q.2 (twoG g), iv 0]) (fun q => [ownG q (twoG g)]) := by
  have hlen := hg.len
  have hul : (uniG g g).length = 2 * g.length := by rw [uniG_len]; omega
  refine fn_of_runM (S := Nil) (args := [gluV base cap g]) (n := 62) (L := []) Tryd.func17 rfl Tryd.ntmps17 (Nat.le_of_ble_eq_true rfl) (Sym.nil _ _) ?_
  change RunC _ _ _ [(0, _)] _
  refine RunC.conv (fun _ hs => hs.marks_nil) ?_
  refine RunC.seq ?_
  refine RunC.region ?_
  refine RunL.grows rfl rfl rfl (Grows.box rfl rfl) (fun b1 _ => ?_)
  refine RunL.grows rfl rfl rfl (Grows.alloc rfl Tryd.zeroValue33) (fun b2 _ => ?_)
  refine RunL.still rfl rfl rfl (Still.assign rfl rfl) ?_
  refine RunL.nil ?_
  refine Ends.then ?_
  refine RunC.seq ?_
  refine RunC.region ?_
  refine RunL.still rfl rfl rfl (Still.loads rfl rfl Tryd.isAgg33 Tryd.sizeOf33 (vs := [_]) rfl (fun _ hs => cells_nth (hs.at (i := 1) rfl) ⟨rfl, trivial⟩)) ?_
  refine RunL.still rfl rfl rfl (Still.loads rfl rfl Tryd.isAgg33 Tryd.sizeOf33 (vs := [_]) rfl (fun _ hs => cells_nth (hs.at (i := 1) rfl) ⟨rfl, trivial⟩)) ?_
  refine RunL.grows rfl rfl rfl (Grows.call (vs := #[_, _]) rfl rfl Tryd.call29 (fun w hs => gl_Union_ok base A cap g base A cap g w (hg.sym hs) (hg.sym hs) hok hok (by omega))) (fun q hq => ?_)
  have hq : OKB q (uniG g g).length := hq
  have hq2 : OKB q (twoG g).length := by have := hq; rw [hul] at this; rw [twoG_len]; exact this
  refine RunL.conv (fun _ hs => hs.re 0 rfl (show _ = HL.own 37 20 (.slice q.1 (2 * g.length) q.2) (2 * g.length) ((uniG g g).flatMap encT) by rw [ownG, hul])) ?_
  refine RunL.still rfl rfl rfl (Still.move rfl rfl) ?_
  refine RunL.still rfl rfl rfl (Still.extractN rfl rfl rfl) ?_
  refine RunL.still rfl rfl rfl (Still.extractN rfl rfl rfl) ?_
  refine RunL.grows rfl rfl rfl (Grows.alloc rfl Tryd.zeroValue33) (fun b4 _ => ?_)
  refine RunL.does0 rfl rfl (Does.store rfl rfl rfl (i := 0) rfl Tryd.sizeOf33 rfl (rfl) rfl) (fun _ _ => ?_)
  refine RunL.conv (fun _ hs => hs.re 0 rfl (show _ = HL.obj b4 (.cells #[.slice q.1 (2 * g.length) q.2] 33 (0, 0)) from by simp only [gluV, hul]; rfl)) ?_
  refine RunL.still rfl rfl rfl (Still.assign rfl rfl) ?_
  refine RunL.nil ?_
  refine Ends.then ?_
  refine RunC.seq ?_
  refine RunC.seq ?_
  refine RunC.region ?_
  refine RunL.still rfl rfl rfl (Still.move rfl rfl) ?_
  refine RunL.still rfl rfl rfl (Still.neq rfl rfl rfl) ?_
  refine RunL.again (t := 16) (u := .bool false) rfl (rfl) ?_
  refine RunL.nil ?_
  refine Ends.then ?_
  refine RunC.cond_false rfl ?_
  refine RunC.skip ?_
  refine Ends.then ?_
  refine RunC.seq ?_
  refine RunC.region ?_
  refine RunL.still rfl rfl rfl (Still.fieldAddrL (off := 0) (off' := 0) rfl rfl Tryd.underlying33 rfl Tryd.sizeOf31 rfl) ?_
  refine RunL.still rfl rfl rfl (Still.load rfl rfl Tryd.isAgg31 (fun _ hs => cell_nth (hs.at (i := 3) rfl) rfl)) ?_
  refine RunL.still rfl rfl rfl (Still.lenSlice rfl rfl Tryd.underlying31) ?_
  refine RunL.grows rfl rfl rfl (Grows.alloc rfl Tryd.zeroValue3) (fun b6 _ => ?_)
  refine RunL.does0 rfl rfl (Does.store1 rfl rfl rfl (i := 0) rfl Tryd.sizeOf3 (rfl) (rfl)) (fun _ _ => ?_)
  refine RunL.nil ?_
  refine Ends.then ?_
  refine RunC.seq ?_
  refine RunC.seq ?_
  refine RunC.region ?_
  refine RunL.still rfl rfl rfl (Still.loads rfl rfl Tryd.isAgg33 Tryd.sizeOf33 (vs := [_]) rfl (fun _ hs => cells_nth (hs.at (i := 4) rfl) ⟨rfl, trivial⟩)) ?_
  refine RunL.grows rfl rfl rfl (Grows.call (vs := #[_]) rfl rfl Tryd.call27 (fun w hs => gl_faces base A cap g w)) (fun gb _ => ?_)
  refine RunL.nil ?_
  refine Ends.then ?_
  refine RunC.block ?_
  refine RunC.conv (fun _ hs => Sym.all (l := [_, _, _]) (hs.sub (HSub.pick 3 rfl (HSub.pick 2 rfl (HSub.pick 1 rfl (HSub.pick 0 rfl (HSub.pick 0 rfl (HSub.pick 0 rfl (HSub.pick 0 rfl (HSub.nil _)))))))))) ?_
  refine RunC.rangeFuncJ (V := .tuple #[]) (gf := 38) (N := 4 * g.length) (lb := #[ptrV gb]) () (fun _ : Unit => none) (fun j => [.agg #[iv ((j / 4 : Nat) : Int), iv ((j % 4 : Nat) : Int)], fcV (fAt g (j / 4) (j % 4))]) (fun j s => HL.all [HL.own 37 20 (.slice q.1 (2 * g.length) q.2) (2 * g.length) ((cg2To (uniG g g) g.length (twH g.length) j).flatMap encT), HL.obj b4 (.cells #[.slice q.1 (2 * g.length) q.2] 33 (0, 0)), HL.obj b6 (.cells #[iv (g.length : Int)] 3 (0, 0))]) rfl rfl (fun _ => rfl) rfl Tryd.call38 rfl (HSub.pick 0 rfl (HSub.refl _)) ?_ ?_ ?_
  · intro l rc j s w S hO hS hj hjs ha hb
    obtain ⟨t, f, rfl, hf4⟩ : ∃ t f, j = 4 * t + f ∧ f < 4 := ⟨j / 4, j % 4, by omega, by omega⟩
    have htN : t < g.length := by omega
    have hxb := okG_tet hok htN hf4
    have e1 : (4 * t + f) / 4 = t := by omega
    have e2 : (4 * t + f) % 4 = f := by omega
    rw [e1, e2]
    refine RunC.seq ?_
    refine RunC.region ?_
    refine RunL.grows rfl rfl rfl (Grows.alloc rfl Tryd.zeroValue57) (fun b7 _ => ?_)
    refine RunL.does0 rfl rfl (Does.store rfl rfl rfl (i := 0) rfl Tryd.sizeOf57 rfl (rfl) rfl) (fun _ _ => ?_)
    refine RunL.nil ?_
    refine Ends.then ?_
    refine RunC.region ?_
    refine RunL.grows rfl rfl rfl (Grows.alloc rfl Tryd.zeroValue36) (fun b8 _ => ?_)
    refine RunL.does0 rfl rfl (Does.store rfl rfl rfl (i := 0) rfl Tryd.sizeOf36 rfl (rfl) rfl) (fun _ _ => ?_)
    refine RunL.nil ?_
    refine Ends.roundBeginJ (Fr.Sub.refl _) (HSub.pick 2 rfl (HSub.refl _)) ?_
    refine RunC.conv (fun _ hs => Sym.unall (hs.sub (HSub.pick 3 rfl (HSub.pick 0 rfl (HSub.pick 0 rfl (HSub.pick 0 rfl (HSub.nil _))))))) ?_
    refine RunC.block ?_
    refine RunC.seq ?_
    refine RunC.region ?_
    refine RunL.still rfl rfl rfl (Still.fieldAddrL (off := 0) (off' := 0) rfl rfl Tryd.underlying36 rfl Tryd.sizeOf3 rfl) ?_
    refine RunL.still rfl rfl rfl (Still.load rfl rfl Tryd.isAgg3 (fun _ hs => cell_nth (hs.at (i := 4) rfl) rfl)) ?_
    refine RunL.still rfl rfl rfl (Still.geq rfl rfl rfl) ?_
    refine RunL.still rfl rfl rfl (Still.move rfl rfl) ?_
    refine RunL.split (t := 29) rfl (fun h29 => ?_) (fun h29 => ?_)
    · have h29 := of_decide_eq_true h29
      refine RunL.still rfl rfl rfl (Still.fieldAddrL (off := 0) (off' := 1) rfl rfl Tryd.underlying36 rfl Tryd.sizeOf23 rfl) ?_
      refine RunL.still rfl rfl rfl (Still.loads rfl rfl Tryd.isAgg23 Tryd.sizeOf23 (vs := [_, _, _, _]) rfl (fun _ hs => cells_nth (hs.at (i := 4) rfl) ⟨rfl, ⟨rfl, ⟨rfl, ⟨rfl, trivial⟩⟩⟩⟩)) ?_
      refine RunL.grows rfl rfl rfl (Grows.call (vs := #[_]) rfl rfl Tryd.call25 (fun w hs => gl_sign _ w)) (fun _ _ => ?_)
      refine RunL.still rfl rfl rfl (Still.eql rfl rfl rfl) ?_
      refine RunL.still rfl rfl rfl (Still.pickT rfl rfl rfl) ?_
      refine RunL.nil ?_
      refine Ends.then ?_
      refine RunC.cond rfl (fun h34 => ?_) (fun h34 => ?_)
      · have h34 := of_decide_eq_true h34
        refine RunC.seq ?_
        refine RunC.draw 13 (.still 0 (.still 1 (.still 2 (.still 3 (.still 4 (.still 5 (.still 6 (.still 7 (.still 8 (.still 9 (.still 10 (.still 11 (.still 12 .done))))))))))))) (by kernel_rfl) (by kernel_rfl) ?_
        refine RunG.still rfl rfl rfl rfl (Still.fieldAddrL (off := 0) (off' := 0) rfl rfl Tryd.underlying33 rfl Tryd.sizeOf31 rfl) ?_
        refine RunG.still rfl rfl rfl rfl (Still.load rfl rfl Tryd.isAgg31 (fun _ hs => cell_nth (hs.at (i := 1) rfl) rfl)) ?_
        refine RunG.still rfl rfl rfl rfl (Still.fieldAddrL (off := 0) (off' := 0) rfl rfl Tryd.underlying57 rfl Tryd.sizeOf3 rfl) ?_
        refine RunG.still rfl rfl rfl rfl (Still.load rfl rfl Tryd.isAgg3 (fun _ hs => cell_nth (hs.at (i := 5) rfl) rfl)) ?_
        refine RunG.still rfl rfl rfl rfl (Still.fieldAddrL (off := 0) (off' := 1) rfl rfl Tryd.underlying57 rfl Tryd.sizeOf3 rfl) ?_
        refine RunG.still rfl rfl rfl rfl (Still.load rfl rfl Tryd.isAgg3 (fun _ hs => cell_nth (hs.at (i := 5) rfl) rfl)) ?_
        refine RunG.still rfl rfl rfl rfl (Still.fieldAddrL (off := 0) (off' := 0) rfl rfl Tryd.underlying36 rfl Tryd.sizeOf3 rfl) ?_
        refine RunG.still rfl rfl rfl rfl (Still.load rfl rfl Tryd.isAgg3 (fun _ hs => cell_nth (hs.at (i := 4) rfl) rfl)) ?_
        refine RunG.still rfl rfl rfl rfl (Still.load rfl rfl Tryd.isAgg3 (fun _ hs => cell_nth (hs.at (i := 2) rfl) rfl)) ?_
        refine RunG.still rfl rfl rfl rfl (Still.add rfl rfl rfl (fits64 (by omega) (by omega))) ?_
        refine RunG.still rfl rfl rfl rfl (Still.indexOwnI (m := t) rfl rfl rfl Tryd.underlying31 Tryd.sizeOf37 (fun _ hs => hs.own (i := 0) rfl) (rfl) (by omega)) ?_
        refine RunG.still rfl rfl rfl rfl (Still.indexArrE f rfl rfl rfl Tryd.underlying37 Tryd.sizeOf36 (rfl) (by omega)) ?_
        refine RunG.still rfl rfl rfl rfl (Still.fieldAddrA (off := 0) rfl rfl Tryd.underlying36 rfl Tryd.sizeOf3 rfl) ?_
        refine RunG.done ?_
        show RunL _ _ _ [_] _ _
        refine RunL.does0 rfl rfl (Does.storeOwn1 (xs' := ((setFc (cg2To (uniG g g) g.length (twH g.length) (4 * t + f)) t f (twH g.length t f (fAt (uniG g g) t f))).flatMap encT)) rfl rfl ((congrArg (fun z => Addr.add z _) (add_add _ _ _)).trans (add_add _ _ _)) rfl (i := 0) rfl Tryd.sizeOf3 rfl (by rw [flat_len encT_len, cg2To_len]; omega) ((setTet_flat (by rw [cg2To_len]; omega) hf4 _).trans (congrArg (List.flatMap encT) (by rw [(cg2To_cur (n := g.length) hul htN hf4).1, tw_lo hok htN hf4 ⟨h29, h34⟩, uniG_lo htN])))) (fun _ _ => ?_)
        refine RunL.nil ?_
        refine Ends.then ?_
        refine RunC.draw 13 (.still 0 (.still 1 (.still 2 (.still 3 (.still 4 (.still 5 (.still 6 (.still 7 (.still 8 (.still 9 (.still 10 (.still 11 (.still 12 .done))))))))))))) (by kernel_rfl) (by kernel_rfl) ?_
        refine RunG.still rfl rfl rfl rfl (Still.fieldAddrL (off := 0) (off' := 0) rfl rfl Tryd.underlying33 rfl Tryd.sizeOf31 rfl) ?_
        refine RunG.still rfl rfl rfl rfl (Still.load rfl rfl Tryd.isAgg31 (fun _ hs => cell_nth (hs.at (i := 1) rfl) rfl)) ?_
        refine RunG.still rfl rfl rfl rfl (Still.fieldAddrL (off := 0) (off' := 0) rfl rfl Tryd.underlying57 rfl Tryd.sizeOf3 rfl) ?_
        refine RunG.still rfl rfl rfl rfl (Still.load rfl rfl Tryd.isAgg3 (fun _ hs => cell_nth (hs.at (i := 5) rfl) rfl)) ?_
        refine RunG.still rfl rfl rfl rfl (Still.load rfl rfl Tryd.isAgg3 (fun _ hs => cell_nth (hs.at (i := 2) rfl) rfl)) ?_
        refine RunG.still rfl rfl rfl rfl (Still.add rfl rfl rfl (fits64 (by omega) (by omega))) ?_
        refine RunG.still rfl rfl rfl rfl (Still.fieldAddrL (off := 0) (off' := 1) rfl rfl Tryd.underlying57 rfl Tryd.sizeOf3 rfl) ?_
        refine RunG.still rfl rfl rfl rfl (Still.load rfl rfl Tryd.isAgg3 (fun _ hs => cell_nth (hs.at (i := 5) rfl) rfl)) ?_
        refine RunG.still rfl rfl rfl rfl (Still.fieldAddrL (off := 0) (off' := 0) rfl rfl Tryd.underlying36 rfl Tryd.sizeOf3 rfl) ?_
        refine RunG.still rfl rfl rfl rfl (Still.load rfl rfl Tryd.isAgg3 (fun _ hs => cell_nth (hs.at (i := 4) rfl) rfl)) ?_
        refine RunG.still rfl rfl rfl rfl (Still.indexOwnI (m := (t + g.length)) rfl rfl rfl Tryd.underlying31 Tryd.sizeOf37 (fun _ hs => hs.own (i := 0) rfl) (by omega) (by omega)) ?_
        refine RunG.still rfl rfl rfl rfl (Still.indexArrE f rfl rfl rfl Tryd.underlying37 Tryd.sizeOf36 (rfl) (by omega)) ?_
        refine RunG.still rfl rfl rfl rfl (Still.fieldAddrA (off := 0) rfl rfl Tryd.underlying36 rfl Tryd.sizeOf3 rfl) ?_
        refine RunG.done ?_
        show RunL _ _ _ [_] _ _
        refine RunL.does0 rfl rfl (Does.storeOwn1 (xs' := ((cg2To (uniG g g) g.length (twH g.length) (4 * t + f + 1)).flatMap encT)) rfl rfl ((congrArg (fun z => Addr.add z _) (add_add _ _ _)).trans (add_add _ _ _)) rfl (i := 0) rfl Tryd.sizeOf3 rfl (by rw [flat_len encT_len, setFc_len, cg2To_len]; omega) ((setTet_flat (by rw [setFc_len, cg2To_len]; omega) hf4 _).trans (congrArg (List.flatMap encT) (by rw [cg2To_step _ _ _ _ hf4, fAt_setFc (by rw [cg2To_len]; omega) hf4 hf4, if_neg (by omega), (cg2To_cur (n := g.length) hul htN hf4).2, tw_hi hok htN hf4 ⟨h29, h34⟩, uniG_hi htN hf4, shF, if_pos h29])))) (fun _ _ => ?_)
        refine RunL.nil ?_
        refine Ends.block ?_
        refine Ends.conv (fun _ hs => (Sym.all (l := [HL.own 37 20 (.slice q.1 (2 * g.length) q.2) (2 * g.length) ((cg2To (uniG g g) g.length (twH g.length) (4 * t + f + 1)).flatMap encT), HL.obj b4 (.cells #[.slice q.1 (2 * g.length) q.2] 33 (0, 0)), HL.obj b6 (.cells #[iv (g.length : Int)] 3 (0, 0))]) (hs.sub (HSub.pick 0 rfl (HSub.pick 0 rfl (HSub.pick 0 rfl (HSub.pick 0 rfl (HSub.nil _))))))).sub (HSub.pick 1 rfl (HSub.pick 0 rfl (HSub.nil _)))) (Ends.roundEndJ () rfl (HSub.refl _))
      · have h34 := of_decide_eq_false h34
        refine RunC.skip ?_
        refine Ends.block ?_
        have hno := tw_no htN hf4 (by omega)
        refine Ends.conv (fun _ hs => (Sym.all (l := [HL.own 37 20 (.slice q.1 (2 * g.length) q.2) (2 * g.length) ((cg2To (uniG g g) g.length (twH g.length) (4 * t + f + 1)).flatMap encT), HL.obj b4 (.cells #[.slice q.1 (2 * g.length) q.2] 33 (0, 0)), HL.obj b6 (.cells #[iv (g.length : Int)] 3 (0, 0))]) (hs.sub (HSub.pick 0 (by rw [cg2To_keep (n := g.length) hul htN hf4 hno.1 hno.2]; rfl) (HSub.pick 0 rfl (HSub.pick 0 rfl (HSub.pick 0 rfl (HSub.nil _))))))).sub (HSub.pick 1 rfl (HSub.pick 0 rfl (HSub.nil _)))) (Ends.roundEndJ () rfl (HSub.refl _))
    · have h29 := of_decide_eq_false h29
      refine RunL.off rfl rfl rfl ?_
      refine RunL.off rfl rfl rfl ?_
      refine RunL.off rfl rfl rfl ?_
      refine RunL.off rfl rfl rfl ?_
      refine RunL.still rfl rfl rfl (Still.pickF rfl rfl rfl) ?_
      refine RunL.nil ?_
      refine Ends.then ?_
      refine RunC.cond_false rfl ?_
      refine RunC.skip ?_
      refine Ends.block ?_
      have hno := tw_no htN hf4 (by omega)
      refine Ends.conv (fun _ hs => (Sym.all (l := [HL.own 37 20 (.slice q.1 (2 * g.length) q.2) (2 * g.length) ((cg2To (uniG g g) g.length (twH g.length) (4 * t + f + 1)).flatMap encT), HL.obj b4 (.cells #[.slice q.1 (2 * g.length) q.2] 33 (0, 0)), HL.obj b6 (.cells #[iv (g.length : Int)] 3 (0, 0))]) (hs.sub (HSub.pick 0 (by rw [cg2To_keep (n := g.length) hul htN hf4 hno.1 hno.2]; rfl) (HSub.pick 0 rfl (HSub.pick 0 rfl (HSub.pick 0 rfl (HSub.nil _))))))).sub (HSub.pick 1 rfl (HSub.pick 0 rfl (HSub.nil _)))) (Ends.roundEndJ () rfl (HSub.refl _))
  · intro l J w hs hy
    exact gl_faces1 base A cap g l gb _ _ J w rfl (hs.holds _ (List.mem_cons_self ..)) hs.ltK (fun w1 ho => hg.old (hs.oldK ho)) (fun w1 ho => cell_nth (hs.keep (i := 0) rfl ho) rfl) (fun t f s ht hf hj w1 ho hh hl => by have h := hy (4 * t + f) s (by omega) hj w1 ho hh hl; rwa [show (4 * t + f) / 4 = t by omega, show (4 * t + f) % 4 = f by omega] at h)
  · intro D j s hjN
    cases s
    · change Go.V.Ends _ Exit.normal _ _ _
      refine Ends.conv (fun _ hs => Sym.marks_push (hs.sub (HSub.pick 1 rfl (HSub.pick 4 rfl (HSub.pick 0 rfl (HSub.pick 0 rfl (HSub.pick 0 rfl (HSub.pick 0 rfl (HSub.nil _))))))))) ?_
      refine Ends.conv (fun _ hs => Sym.unall (hs.sub (HSub.pick 1 rfl (HSub.pick 0 rfl (HSub.pick 0 rfl (HSub.pick 0 rfl (HSub.pick 0 rfl (HSub.nil _)))))))) ?_
      have hgN := hjN rfl
      subst hgN
      refine Ends.conv (fun _ hs => hs.re 0 rfl (show _ = HL.own 37 20 (.slice q.1 (2 * g.length) q.2) (2 * g.length) ((twoG g).flatMap encT) by rw [cg2To_all _ (n := g.length) hul]; rfl)) ?_
      refine Ends.block ?_
      refine Ends.then ?_
      refine RunC.seq ?_
      refine RunC.region ?_
      refine RunL.still rfl rfl rfl (Still.loads rfl rfl Tryd.isAgg33 Tryd.sizeOf33 (vs := [_]) rfl (fun _ hs => cells_nth (hs.at (i := 1) rfl) ⟨rfl, trivial⟩)) ?_
      refine RunL.does0 rfl rfl (Does.store rfl rfl rfl (i := 5) rfl Tryd.sizeOf33 rfl (rfl) rfl) (fun _ _ => ?_)
      refine RunL.still rfl rfl rfl (Still.assign rfl rfl) ?_
      refine RunL.nil ?_
      refine Ends.then ?_
      refine RunC.ret ?_
      refine Ends.leaveM (Ds := [D]) (H := [_, _]) (.inl rfl) (HSub.pick 3 rfl (HSub.pick 4 rfl (HSub.pick 0 rfl (HSub.nil _)))) (fun _ _ ok => ok.results2 Tryd.results17 (Holds.cell rfl (fun _ hs => load_cells (vs := [_]) Tryd.isAgg33 Tryd.sizeOf33 rfl (cells_nth (hs.at (i := 0) rfl) ⟨rfl, trivial⟩))) (Holds.tmp rfl)) (fun w1 hs => ?_)
      exact Ret.intro q hq2 (by show _ = Value.tuple #[gluV q.1 q.2 (twoG g), iv 0]; simp only [gluV, twoG_len]; try rfl) (HSub.pick 1 (by rw [ownG, twoG_len]; rfl) (HSub.nil _)) hs

theorem gl_Double (base : Option Addr) (A : Addr) (cap : Nat) (g : Glu) (w : World) (hg : GluAt w base A g) (hok : okG g = true) (hn : 2 * g.length ≤ 1000) : Gives Tryd.prog 18 #[gluV base cap g] w Nil (fun q : Option Addr × Nat => OKB q (dblG g).length) (fun q => .tuple #[gluV q.1 q.2 (dblG g), iv 0]) (fun q => [ownG q (dblG g)]) := by
  have hlen := hg.len
  have hul : (uniG g g).length = 2 * g.length := by rw [uniG_len]; omega
  refine fn_of_runM (S := Nil) (args := [gluV base cap g]) (n := 58) (L := []) Tryd.func18 rfl Tryd.ntmps18 (Nat.le_of_ble_eq_true rfl) (Sym.nil _ _) ?_
  change RunC _ _ _ [(0, _)] _
  refine RunC.conv (fun _ hs => hs.marks_nil) ?_
  refine RunC.seq ?_
  refine RunC.region ?_
  refine RunL.grows rfl rfl rfl (Grows.box rfl rfl) (fun b1 _ => ?_)
  refine RunL.grows rfl rfl rfl (Grows.alloc rfl Tryd.zeroValue33) (fun b2 _ => ?_)
  refine RunL.still rfl rfl rfl (Still.assign rfl rfl) ?_
  refine RunL.nil ?_
  refine Ends.then ?_
  refine RunC.seq ?_
  refine RunC.region ?_
  refine RunL.still rfl rfl rfl (Still.loads rfl rfl Tryd.isAgg33 Tryd.sizeOf33 (vs := [_]) rfl (fun _ hs => cells_nth (hs.at (i := 1) rfl) ⟨rfl, trivial⟩)) ?_
  refine RunL.still rfl rfl rfl (Still.loads rfl rfl Tryd.isAgg33 Tryd.sizeOf33 (vs := [_]) rfl (fun _ hs => cells_nth (hs.at (i := 1) rfl) ⟨rfl, trivial⟩)) ?_
  refine RunL.grows rfl rfl rfl (Grows.call (vs := #[_, _]) rfl rfl Tryd.call29 (fun w hs => gl_Union_ok base A cap g base A cap g w (hg.sym hs) (hg.sym hs) hok hok (by omega))) (fun q hq => ?_)
  have hq : OKB q (uniG g g).length := hq
  have hq2 : OKB q (dblG g).length := by have := hq; rw [hul] at this; rw [dblG_len]; exact this
  refine RunL.conv (fun _ hs => hs.re 0 rfl (show _ = HL.own 37 20 (.slice q.1 (2 * g.length) q.2) (2 * g.length) ((uniG g g).flatMap encT) by rw [ownG, hul])) ?_
  refine RunL.still rfl rfl rfl (Still.move rfl rfl) ?_
  refine RunL.still rfl rfl rfl (Still.extractN rfl rfl rfl) ?_
  refine RunL.still rfl rfl rfl (Still.extractN rfl rfl rfl) ?_
  refine RunL.grows rfl rfl rfl (Grows.alloc rfl Tryd.zeroValue33) (fun b4 _ => ?_)
  refine RunL.does0 rfl rfl (Does.store rfl rfl rfl (i := 0) rfl Tryd.sizeOf33 rfl (rfl) rfl) (fun _ _ => ?_)
  refine RunL.conv (fun _ hs => hs.re 0 rfl (show _ = HL.obj b4 (.cells #[.slice q.1 (2 * g.length) q.2] 33 (0, 0)) from by simp only [gluV, hul]; rfl)) ?_
  refine RunL.still rfl rfl rfl (Still.assign rfl rfl) ?_
  refine RunL.nil ?_
  refine Ends.then ?_
  refine RunC.seq ?_
  refine RunC.seq ?_
  refine RunC.region ?_
  refine RunL.still rfl rfl rfl (Still.move rfl rfl) ?_
  refine RunL.still rfl rfl rfl (Still.neq rfl rfl rfl) ?_
  refine RunL.again (t := 16) (u := .bool false) rfl (rfl) ?_
  refine RunL.nil ?_
  refine Ends.then ?_
  refine RunC.cond_false rfl ?_
  refine RunC.skip ?_
  refine Ends.then ?_
  refine RunC.seq ?_
  refine RunC.region ?_
  refine RunL.still rfl rfl rfl (Still.fieldAddrL (off := 0) (off' := 0) rfl rfl Tryd.underlying33 rfl Tryd.sizeOf31 rfl) ?_
  refine RunL.still rfl rfl rfl (Still.load rfl rfl Tryd.isAgg31 (fun _ hs => cell_nth (hs.at (i := 3) rfl) rfl)) ?_
  refine RunL.still rfl rfl rfl (Still.lenSlice rfl rfl Tryd.underlying31) ?_
  refine RunL.grows rfl rfl rfl (Grows.alloc rfl Tryd.zeroValue3) (fun b6 _ => ?_)
  refine RunL.does0 rfl rfl (Does.store1 rfl rfl rfl (i := 0) rfl Tryd.sizeOf3 (rfl) (rfl)) (fun _ _ => ?_)
  refine RunL.nil ?_
  refine Ends.then ?_
  refine RunC.seq ?_
  refine RunC.seq ?_
  refine RunC.region ?_
  refine RunL.still rfl rfl rfl (Still.loads rfl rfl Tryd.isAgg33 Tryd.sizeOf33 (vs := [_]) rfl (fun _ hs => cells_nth (hs.at (i := 4) rfl) ⟨rfl, trivial⟩)) ?_
  refine RunL.grows rfl rfl rfl (Grows.call (vs := #[_]) rfl rfl Tryd.call27 (fun w hs => gl_faces base A cap g w)) (fun gb _ => ?_)
  refine RunL.nil ?_
  refine Ends.then ?_
  refine RunC.block ?_
  refine RunC.conv (fun _ hs => Sym.all (l := [_, _, _]) (hs.sub (HSub.pick 3 rfl (HSub.pick 2 rfl (HSub.pick 1 rfl (HSub.pick 0 rfl (HSub.pick 0 rfl (HSub.pick 0 rfl (HSub.pick 0 rfl (HSub.nil _)))))))))) ?_
  refine RunC.rangeFuncJ (V := .tuple #[]) (gf := 38) (N := 4 * g.length) (lb := #[ptrV gb]) () (fun _ : Unit => none) (fun j => [.agg #[iv ((j / 4 : Nat) : Int), iv ((j % 4 : Nat) : Int)], fcV (fAt g (j / 4) (j % 4))]) (fun j s => HL.all [HL.own 37 20 (.slice q.1 (2 * g.length) q.2) (2 * g.length) ((cg2To (uniG g g) g.length (dbH g.length) j).flatMap encT), HL.obj b4 (.cells #[.slice q.1 (2 * g.length) q.2] 33 (0, 0)), HL.obj b6 (.cells #[iv (g.length : Int)] 3 (0, 0))]) rfl rfl (fun _ => rfl) rfl Tryd.call38 rfl (HSub.pick 0 rfl (HSub.refl _)) ?_ ?_ ?_
  · intro l rc j s w S hO hS hj hjs ha hb
    obtain ⟨t, f, rfl, hf4⟩ : ∃ t f, j = 4 * t + f ∧ f < 4 := ⟨j / 4, j % 4, by omega, by omega⟩
    have htN : t < g.length := by omega
    have hxb := okG_tet hok htN hf4
    have e1 : (4 * t + f) / 4 = t := by omega
    have e2 : (4 * t + f) % 4 = f := by omega
    rw [e1, e2]
    refine RunC.seq ?_
    refine RunC.region ?_
    refine RunL.grows rfl rfl rfl (Grows.alloc rfl Tryd.zeroValue57) (fun b7 _ => ?_)
    refine RunL.does0 rfl rfl (Does.store rfl rfl rfl (i := 0) rfl Tryd.sizeOf57 rfl (rfl) rfl) (fun _ _ => ?_)
    refine RunL.nil ?_
    refine Ends.then ?_
    refine RunC.region ?_
    refine RunL.grows rfl rfl rfl (Grows.alloc rfl Tryd.zeroValue36) (fun b8 _ => ?_)
    refine RunL.does0 rfl rfl (Does.store rfl rfl rfl (i := 0) rfl Tryd.sizeOf36 rfl (rfl) rfl) (fun _ _ => ?_)
    refine RunL.nil ?_
    refine Ends.roundBeginJ (Fr.Sub.refl _) (HSub.pick 2 rfl (HSub.refl _)) ?_
    refine RunC.conv (fun _ hs => Sym.unall (hs.sub (HSub.pick 3 rfl (HSub.pick 0 rfl (HSub.pick 0 rfl (HSub.pick 0 rfl (HSub.nil _))))))) ?_
    refine RunC.block ?_
    refine RunC.seq ?_
    refine RunC.region ?_
    refine RunL.still rfl rfl rfl (Still.fieldAddrL (off := 0) (off' := 0) rfl rfl Tryd.underlying36 rfl Tryd.sizeOf3 rfl) ?_
    refine RunL.still rfl rfl rfl (Still.load rfl rfl Tryd.isAgg3 (fun _ hs => cell_nth (hs.at (i := 4) rfl) rfl)) ?_
    refine RunL.still rfl rfl rfl (Still.lss rfl rfl rfl) ?_
    refine RunL.nil ?_
    refine Ends.then ?_
    refine RunC.cond rfl (fun h28 => ?_) (fun h28 => ?_)
    · have h28 := of_decide_eq_true h28
      refine RunC.seq ?_
      refine RunC.draw 14 (.still 0 (.still 1 (.still 2 (.still 3 (.still 4 (.still 5 (.still 6 (.still 7 (.still 8 (.still 9 (.still 12 (.one 10 (.still 11 (.still 13 .done)))))))))))))) (by kernel_rfl) (by kernel_rfl) ?_
      refine RunG.still rfl rfl rfl rfl (Still.fieldAddrL (off := 0) (off' := 0) rfl rfl Tryd.underlying33 rfl Tryd.sizeOf31 rfl) ?_
      refine RunG.still rfl rfl rfl rfl (Still.load rfl rfl Tryd.isAgg31 (fun _ hs => cell_nth (hs.at (i := 1) rfl) rfl)) ?_
      refine RunG.still rfl rfl rfl rfl (Still.fieldAddrL (off := 0) (off' := 0) rfl rfl Tryd.underlying57 rfl Tryd.sizeOf3 rfl) ?_
      refine RunG.still rfl rfl rfl rfl (Still.load rfl rfl Tryd.isAgg3 (fun _ hs => cell_nth (hs.at (i := 5) rfl) rfl)) ?_
      refine RunG.still rfl rfl rfl rfl (Still.fieldAddrL (off := 0) (off' := 1) rfl rfl Tryd.underlying57 rfl Tryd.sizeOf3 rfl) ?_
      refine RunG.still rfl rfl rfl rfl (Still.load rfl rfl Tryd.isAgg3 (fun _ hs => cell_nth (hs.at (i := 5) rfl) rfl)) ?_
      refine RunG.still rfl rfl rfl rfl (Still.fieldAddrL (off := 0) (off' := 0) rfl rfl Tryd.underlying57 rfl Tryd.sizeOf3 rfl) ?_
      refine RunG.still rfl rfl rfl rfl (Still.load rfl rfl Tryd.isAgg3 (fun _ hs => cell_nth (hs.at (i := 5) rfl) rfl)) ?_
      refine RunG.still rfl rfl rfl rfl (Still.load rfl rfl Tryd.isAgg3 (fun _ hs => cell_nth (hs.at (i := 2) rfl) rfl)) ?_
      refine RunG.still rfl rfl rfl rfl (Still.add rfl rfl rfl (fits64 (by omega) (by omega))) ?_
      refine RunG.still rfl rfl rfl rfl (Still.indexOwnI (m := t) rfl rfl rfl Tryd.underlying31 Tryd.sizeOf37 (fun _ hs => hs.own (i := 0) rfl) (rfl) (by omega)) ?_
      refine RunG.grows rfl rfl rfl rfl (Grows.call (vs := #[]) rfl rfl Tryd.call30 (fun w hs => gl_identity w)) (fun _ _ => ?_)
      refine RunG.still rfl rfl rfl rfl (Still.build_1_4 (fun x0_0 x1_0 x1_1 x1_2 x1_3 => .agg #[x0_0, x1_0, x1_1, x1_2, x1_3]) rfl rfl rfl (fun _ => by kernel_rfl)) ?_
      refine RunG.still rfl rfl rfl rfl (Still.indexArrE f rfl rfl rfl Tryd.underlying37 Tryd.sizeOf36 (rfl) (by omega)) ?_
      refine RunG.done ?_
      show RunL _ _ _ [_] _ _
      refine RunL.does0 rfl rfl (Does.storeOwn (xs' := ((setFc (cg2To (uniG g g) g.length (dbH g.length) (4 * t + f)) t f (dbH g.length t f (fAt (uniG g g) t f))).flatMap encT)) rfl rfl (add_add _ _ _) rfl (i := 0) rfl Tryd.sizeOf36 rfl (by decide) rfl (by rw [flat_len encT_len, cg2To_len]; omega) (by rw [db_lo htN h28]; exact setFc_flat (by rw [cg2To_len]; omega) hf4 _)) (fun _ _ => ?_)
      refine RunL.nil ?_
      refine Ends.then ?_
      refine RunC.draw 14 (.still 0 (.still 1 (.still 2 (.still 3 (.still 4 (.still 5 (.still 6 (.still 7 (.still 8 (.still 9 (.still 12 (.one 10 (.still 11 (.still 13 .done)))))))))))))) (by kernel_rfl) (by kernel_rfl) ?_
      refine RunG.still rfl rfl rfl rfl (Still.fieldAddrL (off := 0) (off' := 0) rfl rfl Tryd.underlying33 rfl Tryd.sizeOf31 rfl) ?_
      refine RunG.still rfl rfl rfl rfl (Still.load rfl rfl Tryd.isAgg31 (fun _ hs => cell_nth (hs.at (i := 1) rfl) rfl)) ?_
      refine RunG.still rfl rfl rfl rfl (Still.fieldAddrL (off := 0) (off' := 0) rfl rfl Tryd.underlying57 rfl Tryd.sizeOf3 rfl) ?_
      refine RunG.still rfl rfl rfl rfl (Still.load rfl rfl Tryd.isAgg3 (fun _ hs => cell_nth (hs.at (i := 5) rfl) rfl)) ?_
      refine RunG.still rfl rfl rfl rfl (Still.load rfl rfl Tryd.isAgg3 (fun _ hs => cell_nth (hs.at (i := 2) rfl) rfl)) ?_
      refine RunG.still rfl rfl rfl rfl (Still.add rfl rfl rfl (fits64 (by omega) (by omega))) ?_
      refine RunG.still rfl rfl rfl rfl (Still.fieldAddrL (off := 0) (off' := 1) rfl rfl Tryd.underlying57 rfl Tryd.sizeOf3 rfl) ?_
      refine RunG.still rfl rfl rfl rfl (Still.load rfl rfl Tryd.isAgg3 (fun _ hs => cell_nth (hs.at (i := 5) rfl) rfl)) ?_
      refine RunG.still rfl rfl rfl rfl (Still.fieldAddrL (off := 0) (off' := 0) rfl rfl Tryd.underlying57 rfl Tryd.sizeOf3 rfl) ?_
      refine RunG.still rfl rfl rfl rfl (Still.load rfl rfl Tryd.isAgg3 (fun _ hs => cell_nth (hs.at (i := 5) rfl) rfl)) ?_
      refine RunG.still rfl rfl rfl rfl (Still.indexOwnI (m := (t + g.length)) rfl rfl rfl Tryd.underlying31 Tryd.sizeOf37 (fun _ hs => hs.own (i := 0) rfl) (by omega) (by omega)) ?_
      refine RunG.grows rfl rfl rfl rfl (Grows.call (vs := #[]) rfl rfl Tryd.call30 (fun w hs => gl_identity w)) (fun _ _ => ?_)
      refine RunG.still rfl rfl rfl rfl (Still.build_1_4 (fun x0_0 x1_0 x1_1 x1_2 x1_3 => .agg #[x0_0, x1_0, x1_1, x1_2, x1_3]) rfl rfl rfl (fun _ => by kernel_rfl)) ?_
      refine RunG.still rfl rfl rfl rfl (Still.indexArrE f rfl rfl rfl Tryd.underlying37 Tryd.sizeOf36 (rfl) (by omega)) ?_
      refine RunG.done ?_
      show RunL _ _ _ [_] _ _
      refine RunL.does0 rfl rfl (Does.storeOwn (xs' := ((cg2To (uniG g g) g.length (dbH g.length) (4 * t + f + 1)).flatMap encT)) rfl rfl (add_add _ _ _) rfl (i := 0) rfl Tryd.sizeOf36 rfl (by decide) rfl (by rw [flat_len encT_len, setFc_len, cg2To_len]; omega) (by rw [cg2To_step _ _ _ _ hf4, db_hi htN hf4 h28]; exact setFc_flat (by rw [setFc_len, cg2To_len]; omega) hf4 _)) (fun _ _ => ?_)
      refine RunL.nil ?_
      refine Ends.block ?_
      refine Ends.conv (fun _ hs => (Sym.all (l := [HL.own 37 20 (.slice q.1 (2 * g.length) q.2) (2 * g.length) ((cg2To (uniG g g) g.length (dbH g.length) (4 * t + f + 1)).flatMap encT), HL.obj b4 (.cells #[.slice q.1 (2 * g.length) q.2] 33 (0, 0)), HL.obj b6 (.cells #[iv (g.length : Int)] 3 (0, 0))]) (hs.sub (HSub.pick 0 rfl (HSub.pick 0 rfl (HSub.pick 0 rfl (HSub.pick 0 rfl (HSub.nil _))))))).sub (HSub.pick 1 rfl (HSub.pick 0 rfl (HSub.nil _)))) (Ends.roundEndJ () rfl (HSub.refl _))
    · have h28 := of_decide_eq_false h28
      refine RunC.skip ?_
      refine Ends.block ?_
      have hno := db_no htN hf4 h28
      refine Ends.conv (fun _ hs => (Sym.all (l := [HL.own 37 20 (.slice q.1 (2 * g.length) q.2) (2 * g.length) ((cg2To (uniG g g) g.length (dbH g.length) (4 * t + f + 1)).flatMap encT), HL.obj b4 (.cells #[.slice q.1 (2 * g.length) q.2] 33 (0, 0)), HL.obj b6 (.cells #[iv (g.length : Int)] 3 (0, 0))]) (hs.sub (HSub.pick 0 (by rw [cg2To_keep (n := g.length) hul htN hf4 hno.1 hno.2]; rfl) (HSub.pick 0 rfl (HSub.pick 0 rfl (HSub.pick 0 rfl (HSub.nil _))))))).sub (HSub.pick 1 rfl (HSub.pick 0 rfl (HSub.nil _)))) (Ends.roundEndJ () rfl (HSub.refl _))
  · intro l J w hs hy
    exact gl_faces1 base A cap g l gb _ _ J w rfl (hs.holds _ (List.mem_cons_self ..)) hs.ltK (fun w1 ho => hg.old (hs.oldK ho)) (fun w1 ho => cell_nth (hs.keep (i := 0) rfl ho) rfl) (fun t f s ht hf hj w1 ho hh hl => by have h := hy (4 * t + f) s (by omega) hj w1 ho hh hl; rwa [show (4 * t + f) / 4 = t by omega, show (4 * t + f) % 4 = f by omega] at h)
  · intro D j s hjN
    cases s
    · change Go.V.Ends _ Exit.normal _ _ _
      refine Ends.conv (fun _ hs => Sym.marks_push (hs.sub (HSub.pick 1 rfl (HSub.pick 4 rfl (HSub.pick 0 rfl (HSub.pick 0 rfl (HSub.pick 0 rfl (HSub.pick 0 rfl (HSub.nil _))))))))) ?_
      refine Ends.conv (fun _ hs => Sym.unall (hs.sub (HSub.pick 1 rfl (HSub.pick 0 rfl (HSub.pick 0 rfl (HSub.pick 0 rfl (HSub.pick 0 rfl (HSub.nil _)))))))) ?_
      have hgN := hjN rfl
      subst hgN
      refine Ends.conv (fun _ hs => hs.re 0 rfl (show _ = HL.own 37 20 (.slice q.1 (2 * g.length) q.2) (2 * g.length) ((dblG g).flatMap encT) by rw [cg2To_all _ (n := g.length) hul]; rfl)) ?_
      refine Ends.block ?_
      refine Ends.then ?_
      refine RunC.seq ?_
      refine RunC.region ?_
      refine RunL.still rfl rfl rfl (Still.loads rfl rfl Tryd.isAgg33 Tryd.sizeOf33 (vs := [_]) rfl (fun _ hs => cells_nth (hs.at (i := 1) rfl) ⟨rfl, trivial⟩)) ?_
      refine RunL.does0 rfl rfl (Does.store rfl rfl rfl (i := 5) rfl Tryd.sizeOf33 rfl (rfl) rfl) (fun _ _ => ?_)
      refine RunL.still rfl rfl rfl (Still.assign rfl rfl) ?_
      refine RunL.nil ?_
      refine Ends.then ?_
      refine RunC.ret ?_
      refine Ends.leaveM (Ds := [D]) (H := [_, _]) (.inl rfl) (HSub.pick 3 rfl (HSub.pick 4 rfl (HSub.pick 0 rfl (HSub.nil _)))) (fun _ _ ok => ok.results2 Tryd.results18 (Holds.cell rfl (fun _ hs => load_cells (vs := [_]) Tryd.isAgg33 Tryd.sizeOf33 rfl (cells_nth (hs.at (i := 0) rfl) ⟨rfl, trivial⟩))) (Holds.tmp rfl)) (fun w1 hs => ?_)
      exact Ret.intro q hq2 (by show _ = Value.tuple #[gluV q.1 q.2 (dblG g), iv 0]; simp only [gluV, dblG_len]; try rfl) (HSub.pick 1 (by rw [ownG, dblG_len]; rfl) (HSub.nil _)) hs

end Go.Proofs
/- The chapter's examples. -/
namespace Go.Proofs
open Go Go.V
set_option maxRecDepth 20000
theorem gl_Orient_one (base : Option Addr) (A : Addr) (cap : Nat) (w : World) (hg : GluAt w base A gOne) : Gives Tryd.prog 16 #[gluV base cap gOne] w Nil (fun _ : Nat => True) (fun b => .tuple #[.slice (some ⟨b, 0, none⟩) 1 1, .bool true, iv 0]) (fun b => [HL.own 3 1 (.slice (some ⟨b, 0, none⟩) 1 1) 1 (ints [1])]) := by
  have h := gl_Orient base A cap gOne w hg one_ok
  have e1 : ∀ b, oriV gOne b = .tuple #[.slice (some ⟨b, 0, none⟩) 1 1, .bool true, iv 0] := fun b => by rw [oriV, one_ori]; rfl
  have e2 : ∀ b, oriH gOne b = [HL.own 3 1 (.slice (some ⟨b, 0, none⟩) 1 1) 1 (ints [1])] := fun b => by rw [oriH, one_ori]; rfl
  simp only [e1, e2] at h
  exact h
theorem gl_Text_one (g : Glu) (t : ByteArray) (base : Option Addr) (A : Addr) (cap : Nat) (w : World) (hg : GluAt w base A g) (hok : okG g = true) (ht : textG g = t) (he : Env w) : Gives Tryd.prog 15 #[gluV base cap g] w Nil (fun _ : Unit => True) (fun _ => .tuple #[.string t, iv 0]) (fun _ => []) := by
  subst ht; exact gl_Text base A cap g w hg hok he

theorem lw_sane (w : World) (he : Env w) : Gives Tryd.prog 4 #[] w Nil (fun _ : Unit => True) (fun _ => .bool true) (fun _ => []) := by
  refine fn_of_run (S := Nil) (args := []) (n := 150) (L := []) Tryd.func4 rfl Tryd.ntmps4 (Nat.le_of_ble_eq_true rfl) (Sym.nil _ _) ?_
  change RunC _ _ _ [] _
  refine RunC.seq ?_
  refine RunC.region ?_
  refine RunL.still rfl rfl rfl (Still.assign rfl rfl) ?_
  refine RunL.nil ?_
  refine Ends.then ?_
  refine RunC.seq ?_
  refine RunC.region ?_
  refine RunL.grows rfl rfl rfl (Grows.call (vs := #[]) rfl rfl Tryd.call14 (fun w hs => lw_One w)) (fun b16 _ => ?_)
  refine RunL.grows rfl rfl rfl (Grows.alloc rfl Tryd.zeroValue33) (fun b1 _ => ?_)
  refine RunL.does0 rfl rfl (Does.store rfl rfl rfl (i := 0) rfl Tryd.sizeOf33 rfl (rfl) rfl) (fun _ _ => ?_)
  refine RunL.conv (fun _ hs => hs.re 0 rfl (show _ = HL.obj b1 (.cells #[.slice (some ⟨b16, 0, none⟩) 1 1] 33 (0, 0)) from rfl)) ?_
  refine RunL.nil ?_
  refine Ends.then ?_
  refine RunC.seq ?_
  refine RunC.region ?_
  refine RunL.still rfl rfl rfl (Still.build_1 (fun x0_0 => .agg #[x0_0, .int .i64 0, .int .i64 0, .int .i64 0, .int .i64 0]) rfl rfl (fun _ => by kernel_rfl)) ?_
  refine RunL.still rfl rfl rfl (Still.build_1 (fun x0_0 => .agg #[x0_0, .int .i64 0, .int .i64 0, .int .i64 0, .int .i64 0]) rfl rfl (fun _ => by kernel_rfl)) ?_
  refine RunL.still rfl rfl rfl (Still.build_1 (fun x0_0 => .agg #[x0_0, .int .i64 0, .int .i64 0, .int .i64 0, .int .i64 0]) rfl rfl (fun _ => by kernel_rfl)) ?_
  refine RunL.still rfl rfl rfl (Still.build_1 (fun x0_0 => .agg #[x0_0, .int .i64 0, .int .i64 0, .int .i64 0, .int .i64 0]) rfl rfl (fun _ => by kernel_rfl)) ?_
  refine RunL.still rfl rfl rfl (Still.build_5_5_5_5 (fun x0_0 x0_1 x0_2 x0_3 x0_4 x1_0 x1_1 x1_2 x1_3 x1_4 x2_0 x2_1 x2_2 x2_3 x2_4 x3_0 x3_1 x3_2 x3_3 x3_4 => .agg #[x0_0, x0_1, x0_2, x0_3, x0_4, x1_0, x1_1, x1_2, x1_3, x1_4, x2_0, x2_1, x2_2, x2_3, x2_4, x3_0, x3_1, x3_2, x3_3, x3_4]) rfl rfl rfl rfl rfl (fun _ => by kernel_rfl)) ?_
  refine RunL.grows rfl rfl rfl (Grows.slice1 rfl rfl Tryd.underlying31 Tryd.sizeOf37 rfl Tryd.zeroValue37 (by decide)) (fun b22 _ => ?_)
  refine RunL.conv (fun _ hs => Sym.obj_own (k := 20) (n := 1) hs rfl (by omega)) ?_
  refine RunL.still rfl rfl rfl (Still.build_1 (fun x0_0 => .agg #[x0_0]) rfl rfl (fun _ => by kernel_rfl)) ?_
  refine RunL.grows rfl rfl rfl (Grows.alloc rfl Tryd.zeroValue33) (fun b2 _ => ?_)
  refine RunL.does0 rfl rfl (Does.store rfl rfl rfl (i := 0) rfl Tryd.sizeOf33 rfl (rfl) rfl) (fun _ _ => ?_)
  refine RunL.conv (fun _ hs => hs.re 0 rfl (show _ = HL.obj b2 (.cells #[.slice (some ⟨b22, 0, none⟩) 1 1] 33 (0, 0)) from rfl)) ?_
  refine RunL.nil ?_
  refine Ends.then ?_
  refine RunC.seq ?_
  refine RunC.region ?_
  refine RunL.grows rfl rfl rfl (Grows.call (vs := #[]) rfl rfl Tryd.call13 (fun w hs => rf_Identity w)) (fun _ _ => ?_)
  refine RunL.still rfl rfl rfl (Still.build_4 (fun x0_0 x0_1 x0_2 x0_3 => .agg #[.int .i64 0, x0_0, x0_1, x0_2, x0_3]) rfl rfl (fun _ => by kernel_rfl)) ?_
  refine RunL.still rfl rfl rfl (Still.build_1 (fun x0_0 => .agg #[x0_0, .int .i64 0, .int .i64 0, .int .i64 0, .int .i64 0]) rfl rfl (fun _ => by kernel_rfl)) ?_
  refine RunL.still rfl rfl rfl (Still.build_1 (fun x0_0 => .agg #[x0_0, .int .i64 0, .int .i64 0, .int .i64 0, .int .i64 0]) rfl rfl (fun _ => by kernel_rfl)) ?_
  refine RunL.still rfl rfl rfl (Still.build_1 (fun x0_0 => .agg #[x0_0, .int .i64 0, .int .i64 0, .int .i64 0, .int .i64 0]) rfl rfl (fun _ => by kernel_rfl)) ?_
  refine RunL.still rfl rfl rfl (Still.build_5_5_5_5 (fun x0_0 x0_1 x0_2 x0_3 x0_4 x1_0 x1_1 x1_2 x1_3 x1_4 x2_0 x2_1 x2_2 x2_3 x2_4 x3_0 x3_1 x3_2 x3_3 x3_4 => .agg #[x0_0, x0_1, x0_2, x0_3, x0_4, x1_0, x1_1, x1_2, x1_3, x1_4, x2_0, x2_1, x2_2, x2_3, x2_4, x3_0, x3_1, x3_2, x3_3, x3_4]) rfl rfl rfl rfl rfl (fun _ => by kernel_rfl)) ?_
  refine RunL.grows rfl rfl rfl (Grows.slice1 rfl rfl Tryd.underlying31 Tryd.sizeOf37 rfl Tryd.zeroValue37 (by decide)) (fun b30 _ => ?_)
  refine RunL.conv (fun _ hs => Sym.obj_own (k := 20) (n := 1) hs rfl (by omega)) ?_
  refine RunL.still rfl rfl rfl (Still.build_1 (fun x0_0 => .agg #[x0_0]) rfl rfl (fun _ => by kernel_rfl)) ?_
  refine RunL.grows rfl rfl rfl (Grows.alloc rfl Tryd.zeroValue33) (fun b3 _ => ?_)
  refine RunL.does0 rfl rfl (Does.store rfl rfl rfl (i := 0) rfl Tryd.sizeOf33 rfl (rfl) rfl) (fun _ _ => ?_)
  refine RunL.conv (fun _ hs => hs.re 0 rfl (show _ = HL.obj b3 (.cells #[.slice (some ⟨b30, 0, none⟩) 1 1] 33 (0, 0)) from rfl)) ?_
  refine RunL.nil ?_
  refine Ends.then ?_
  refine RunC.seq ?_
  refine RunC.region ?_
  refine RunL.still rfl rfl rfl (Still.loads rfl rfl Tryd.isAgg33 Tryd.sizeOf33 (vs := [_]) rfl (fun _ hs => cells_nth (hs.at (i := 4) rfl) ⟨rfl, trivial⟩)) ?_
  refine RunL.grows rfl rfl rfl (Grows.call (vs := #[_]) rfl rfl Tryd.call15 (fun w hs => gl_Text_one gOne txtOne (some ⟨b16, 0, none⟩) _ 1 w (GluAt.of_ownG (q := (some ⟨b16, 0, none⟩, 1)) (g := gOne) (by decide +kernel) (hs.at (i := 5) rfl)) one_ok one_text (he.sym hs))) (fun _ _ => ?_)
  refine RunL.still rfl rfl rfl (Still.move rfl rfl) ?_
  refine RunL.still rfl rfl rfl (Still.extractN rfl rfl rfl) ?_
  refine RunL.still rfl rfl rfl (Still.extractN rfl rfl rfl) ?_
  refine RunL.still rfl rfl rfl (Still.assign rfl rfl) ?_
  refine RunL.still rfl rfl rfl (Still.assign rfl rfl) ?_
  refine RunL.nil ?_
  refine Ends.then ?_
  refine RunC.seq ?_
  refine RunC.region ?_
  refine RunL.still rfl rfl rfl (Still.loads rfl rfl Tryd.isAgg33 Tryd.sizeOf33 (vs := [_]) rfl (fun _ hs => cells_nth (hs.at (i := 4) rfl) ⟨rfl, trivial⟩)) ?_
  refine RunL.grows rfl rfl rfl (Grows.call (vs := #[_]) rfl rfl Tryd.call16 (fun w hs => gl_Orient_one (some ⟨b16, 0, none⟩) _ 1 w (GluAt.of_ownG (q := (some ⟨b16, 0, none⟩, 1)) (g := gOne) (by decide +kernel) (hs.at (i := 5) rfl)))) (fun b39 _ => ?_)
  refine RunL.still rfl rfl rfl (Still.move rfl rfl) ?_
  refine RunL.still rfl rfl rfl (Still.extractN rfl rfl rfl) ?_
  refine RunL.still rfl rfl rfl (Still.extractN rfl rfl rfl) ?_
  refine RunL.still rfl rfl rfl (Still.extractN rfl rfl rfl) ?_
  refine RunL.still rfl rfl rfl (Still.assign rfl rfl) ?_
  refine RunL.still rfl rfl rfl (Still.assign rfl rfl) ?_
  refine RunL.still rfl rfl rfl (Still.assign rfl rfl) ?_
  refine RunL.nil ?_
  refine Ends.then ?_
  refine RunC.seq ?_
  refine RunC.region ?_
  refine RunL.still rfl rfl rfl (Still.loads rfl rfl Tryd.isAgg33 Tryd.sizeOf33 (vs := [_]) rfl (fun _ hs => cells_nth (hs.at (i := 5) rfl) ⟨rfl, trivial⟩)) ?_
  refine RunL.grows rfl rfl rfl (Grows.call (vs := #[_]) rfl rfl Tryd.call17 (fun w hs => gl_Twofold (some ⟨b16, 0, none⟩) _ 1 gOne w (GluAt.of_ownG (q := (some ⟨b16, 0, none⟩, 1)) (g := gOne) (by decide +kernel) (hs.at (i := 6) rfl)) one_ok (by decide))) (fun q hq => ?_)
  refine RunL.still rfl rfl rfl (Still.move rfl rfl) ?_
  refine RunL.still rfl rfl rfl (Still.extractN rfl rfl rfl) ?_
  refine RunL.still rfl rfl rfl (Still.extractN rfl rfl rfl) ?_
  refine RunL.grows rfl rfl rfl (Grows.alloc rfl Tryd.zeroValue33) (fun b9 _ => ?_)
  refine RunL.does0 rfl rfl (Does.store rfl rfl rfl (i := 0) rfl Tryd.sizeOf33 rfl (rfl) rfl) (fun _ _ => ?_)
  refine RunL.conv (fun _ hs => hs.re 0 rfl (show _ = HL.obj b9 (.cells #[.slice q.1 2 q.2] 33 (0, 0)) from rfl)) ?_
  refine RunL.still rfl rfl rfl (Still.assign rfl rfl) ?_
  refine RunL.nil ?_
  refine Ends.then ?_
  refine RunC.seq ?_
  refine RunC.region ?_
  refine RunL.still rfl rfl rfl (Still.loads rfl rfl Tryd.isAgg33 Tryd.sizeOf33 (vs := [_]) rfl (fun _ hs => cells_nth (hs.at (i := 5) rfl) ⟨rfl, trivial⟩)) ?_
  refine RunL.grows rfl rfl rfl (Grows.call (vs := #[_]) rfl rfl Tryd.call18 (fun w hs => gl_Double (some ⟨b22, 0, none⟩) _ 1 gFree w (GluAt.of_ownG (q := (some ⟨b22, 0, none⟩, 1)) (g := gFree) (by decide +kernel) (hs.at (i := 6) rfl)) free_ok (by decide))) (fun r hr => ?_)
  refine RunL.still rfl rfl rfl (Still.move rfl rfl) ?_
  refine RunL.still rfl rfl rfl (Still.extractN rfl rfl rfl) ?_
  refine RunL.still rfl rfl rfl (Still.extractN rfl rfl rfl) ?_
  refine RunL.grows rfl rfl rfl (Grows.alloc rfl Tryd.zeroValue33) (fun b11 _ => ?_)
  refine RunL.does0 rfl rfl (Does.store rfl rfl rfl (i := 0) rfl Tryd.sizeOf33 rfl (rfl) rfl) (fun _ _ => ?_)
  refine RunL.conv (fun _ hs => hs.re 0 rfl (show _ = HL.obj b11 (.cells #[.slice r.1 2 r.2] 33 (0, 0)) from rfl)) ?_
  refine RunL.still rfl rfl rfl (Still.assign rfl rfl) ?_
  refine RunL.nil ?_
  refine Ends.then ?_
  refine RunC.seq ?_
  refine RunC.seq ?_
  refine RunC.region ?_
  refine RunL.still rfl rfl rfl (Still.move rfl rfl) ?_
  refine RunL.still rfl rfl rfl (Still.neq rfl rfl rfl) ?_
  refine RunL.again (t := 54) (u := .bool false) rfl (rfl) ?_
  refine RunL.still rfl rfl rfl (Still.move rfl rfl) ?_
  refine RunL.still rfl rfl rfl (Still.move rfl rfl) ?_
  refine RunL.still rfl rfl rfl (Still.neq rfl rfl rfl) ?_
  refine RunL.again (t := 57) (u := .bool false) rfl (rfl) ?_
  refine RunL.still rfl rfl rfl (Still.pickF rfl rfl rfl) ?_
  refine RunL.still rfl rfl rfl (Still.move rfl rfl) ?_
  refine RunL.still rfl rfl rfl (Still.move rfl rfl) ?_
  refine RunL.still rfl rfl rfl (Still.neq rfl rfl rfl) ?_
  refine RunL.again (t := 61) (u := .bool false) rfl (rfl) ?_
  refine RunL.still rfl rfl rfl (Still.pickF rfl rfl rfl) ?_
  refine RunL.still rfl rfl rfl (Still.move rfl rfl) ?_
  refine RunL.still rfl rfl rfl (Still.move rfl rfl) ?_
  refine RunL.still rfl rfl rfl (Still.neq rfl rfl rfl) ?_
  refine RunL.again (t := 65) (u := .bool false) rfl (rfl) ?_
  refine RunL.still rfl rfl rfl (Still.pickF rfl rfl rfl) ?_
  refine RunL.still rfl rfl rfl (Still.move rfl rfl) ?_
  refine RunL.still rfl rfl rfl (Still.move rfl rfl) ?_
  refine RunL.still rfl rfl rfl (Still.neqStrD rfl rfl rfl) ?_
  refine RunL.again (t := 69) (u := .bool false) rfl (by rfl) ?_
  refine RunL.still rfl rfl rfl (Still.pickF rfl rfl rfl) ?_
  refine RunL.still rfl rfl rfl (Still.move rfl rfl) ?_
  refine RunL.still rfl rfl rfl (Still.move rfl rfl) ?_
  refine RunL.still rfl rfl rfl (Still.not rfl rfl) ?_
  refine RunL.again (t := 73) (u := .bool false) rfl (rfl) ?_
  refine RunL.still rfl rfl rfl (Still.pickF rfl rfl rfl) ?_
  refine RunL.still rfl rfl rfl (Still.move rfl rfl) ?_
  refine RunL.still rfl rfl rfl (Still.move rfl rfl) ?_
  refine RunL.grows rfl rfl rfl (Grows.slice1 rfl rfl Tryd.underlying41 Tryd.sizeOf3 rfl Tryd.zeroValue3 (by decide)) (fun b77 _ => ?_)
  refine RunL.conv (fun _ hs => Sym.obj_own (k := 1) (n := 1) hs rfl (by omega)) ?_
  refine RunL.grows rfl rfl rfl (Grows.call (vs := #[_, _]) rfl rfl Tryd.call19 (fun w hs => rf_SameInts (.slice (some ⟨b39, 0, none⟩) 1 1) _ [1] [1] w (own_shape (hs.own (i := 5) rfl)) (own_all (hs.own (i := 5) rfl)) (by decide) (own_shape (hs.own (i := 0) rfl)) (own_all (hs.own (i := 0) rfl)) (by decide))) (fun _ _ => ?_)
  refine RunL.still rfl rfl rfl (Still.not rfl rfl) ?_
  refine RunL.again (t := 79) (u := .bool false) rfl (by rfl) ?_
  refine RunL.still rfl rfl rfl (Still.pickF rfl rfl rfl) ?_
  refine RunL.nil ?_
  refine Ends.then ?_
  refine RunC.cond_false rfl ?_
  refine RunC.skip ?_
  refine Ends.then ?_
  refine RunC.seq ?_
  refine RunC.region ?_
  refine RunL.still rfl rfl rfl (Still.loads rfl rfl Tryd.isAgg33 Tryd.sizeOf33 (vs := [_]) rfl (fun _ hs => cells_nth (hs.at (i := 3) rfl) ⟨rfl, trivial⟩)) ?_
  refine RunL.grows rfl rfl rfl (Grows.call (vs := #[_]) rfl rfl Tryd.call15 (fun w hs => gl_Text_one (twoG gOne) txtTwo q.1 _ q.2 w (GluAt.of_ownG (q := q) (g := twoG gOne) (by decide +kernel) (hs.at (i := 4) rfl)) two_ok two_text (he.sym hs))) (fun _ _ => ?_)
  refine RunL.still rfl rfl rfl (Still.move rfl rfl) ?_
  refine RunL.still rfl rfl rfl (Still.extractN rfl rfl rfl) ?_
  refine RunL.still rfl rfl rfl (Still.extractN rfl rfl rfl) ?_
  refine RunL.still rfl rfl rfl (Still.assign rfl rfl) ?_
  refine RunL.still rfl rfl rfl (Still.assign rfl rfl) ?_
  refine RunL.nil ?_
  refine Ends.then ?_
  refine RunC.seq ?_
  refine RunC.region ?_
  refine RunL.still rfl rfl rfl (Still.loads rfl rfl Tryd.isAgg33 Tryd.sizeOf33 (vs := [_]) rfl (fun _ hs => cells_nth (hs.at (i := 1) rfl) ⟨rfl, trivial⟩)) ?_
  refine RunL.grows rfl rfl rfl (Grows.call (vs := #[_]) rfl rfl Tryd.call15 (fun w hs => gl_Text_one (dblG gFree) txtDbl r.1 _ r.2 w (GluAt.of_ownG (q := r) (g := dblG gFree) (by decide +kernel) (hs.at (i := 2) rfl)) dbl_ok dbl_text (he.sym hs))) (fun _ _ => ?_)
  refine RunL.still rfl rfl rfl (Still.move rfl rfl) ?_
  refine RunL.still rfl rfl rfl (Still.extractN rfl rfl rfl) ?_
  refine RunL.still rfl rfl rfl (Still.extractN rfl rfl rfl) ?_
  refine RunL.still rfl rfl rfl (Still.assign rfl rfl) ?_
  refine RunL.still rfl rfl rfl (Still.assign rfl rfl) ?_
  refine RunL.nil ?_
  refine Ends.then ?_
  refine RunC.seq ?_
  refine RunC.region ?_
  refine RunL.still rfl rfl rfl (Still.move rfl rfl) ?_
  refine RunL.grows rfl rfl rfl (Grows.call (vs := #[_]) rfl rfl Tryd.call20 (fun w hs => gl_Parse_one w (he.sym hs))) (fun p hp => ?_)
  refine RunL.still rfl rfl rfl (Still.move rfl rfl) ?_
  refine RunL.still rfl rfl rfl (Still.extractN rfl rfl rfl) ?_
  refine RunL.still rfl rfl rfl (Still.extractN rfl rfl rfl) ?_
  refine RunL.grows rfl rfl rfl (Grows.alloc rfl Tryd.zeroValue33) (fun b15 _ => ?_)
  refine RunL.does0 rfl rfl (Does.store rfl rfl rfl (i := 0) rfl Tryd.sizeOf33 rfl (rfl) rfl) (fun _ _ => ?_)
  refine RunL.conv (fun _ hs => hs.re 0 rfl (show _ = HL.obj b15 (.cells #[.slice p.1 1 p.2] 33 (0, 0)) from rfl)) ?_
  refine RunL.still rfl rfl rfl (Still.assign rfl rfl) ?_
  refine RunL.nil ?_
  refine Ends.then ?_
  refine RunC.seq ?_
  refine RunC.region ?_
  refine RunL.still rfl rfl rfl (Still.move rfl rfl) ?_
  refine RunL.still rfl rfl rfl (Still.eql rfl rfl rfl) ?_
  refine RunL.again (t := 97) (u := .bool true) rfl (rfl) ?_
  refine RunL.still rfl rfl rfl (Still.move rfl rfl) ?_
  refine RunL.still rfl rfl rfl (Still.move rfl rfl) ?_
  refine RunL.still rfl rfl rfl (Still.eql rfl rfl rfl) ?_
  refine RunL.again (t := 100) (u := .bool true) rfl (rfl) ?_
  refine RunL.still rfl rfl rfl (Still.pickT rfl rfl rfl) ?_
  refine RunL.still rfl rfl rfl (Still.move rfl rfl) ?_
  refine RunL.still rfl rfl rfl (Still.move rfl rfl) ?_
  refine RunL.still rfl rfl rfl (Still.eql rfl rfl rfl) ?_
  refine RunL.again (t := 104) (u := .bool true) rfl (rfl) ?_
  refine RunL.still rfl rfl rfl (Still.pickT rfl rfl rfl) ?_
  refine RunL.still rfl rfl rfl (Still.move rfl rfl) ?_
  refine RunL.still rfl rfl rfl (Still.loads rfl rfl Tryd.isAgg33 Tryd.sizeOf33 (vs := [_]) rfl (fun _ hs => cells_nth (hs.at (i := 0) rfl) ⟨rfl, trivial⟩)) ?_
  refine RunL.still rfl rfl rfl (Still.loads rfl rfl Tryd.isAgg33 Tryd.sizeOf33 (vs := [_]) rfl (fun _ hs => cells_nth (hs.at (i := 12) rfl) ⟨rfl, trivial⟩)) ?_
  refine RunL.grows rfl rfl rfl (Grows.call (vs := #[_, _]) rfl rfl Tryd.call21 (fun w hs => gl_Same p.1 _ p.2 gOne (some ⟨b16, 0, none⟩) _ 1 gOne w (GluAt.of_ownG (q := p) (g := gOne) (by decide +kernel) (hs.at (i := 1) rfl)) (GluAt.of_ownG (q := (some ⟨b16, 0, none⟩, 1)) (g := gOne) (by decide +kernel) (hs.at (i := 13) rfl)))) (fun _ _ => ?_)
  refine RunL.again (t := 109) (u := .bool true) rfl (by rfl) ?_
  refine RunL.still rfl rfl rfl (Still.pickT rfl rfl rfl) ?_
  refine RunL.still rfl rfl rfl (Still.move rfl rfl) ?_
  refine RunL.still rfl rfl rfl (Still.move rfl rfl) ?_
  refine RunL.still rfl rfl rfl (Still.eqlStrD rfl rfl rfl) ?_
  refine RunL.again (t := 113) (u := .bool true) rfl (by rfl) ?_
  refine RunL.still rfl rfl rfl (Still.pickT rfl rfl rfl) ?_
  refine RunL.still rfl rfl rfl (Still.move rfl rfl) ?_
  refine RunL.still rfl rfl rfl (Still.move rfl rfl) ?_
  refine RunL.still rfl rfl rfl (Still.eqlStrD rfl rfl rfl) ?_
  refine RunL.again (t := 117) (u := .bool true) rfl (by rfl) ?_
  refine RunL.still rfl rfl rfl (Still.pickT rfl rfl rfl) ?_
  refine RunL.still rfl rfl rfl (Still.move rfl rfl) ?_
  refine RunL.still rfl rfl rfl (Still.loads rfl rfl Tryd.isAgg33 Tryd.sizeOf33 (vs := [_]) rfl (fun _ hs => cells_nth (hs.at (i := 8) rfl) ⟨rfl, trivial⟩)) ?_
  refine RunL.grows rfl rfl rfl (Grows.call (vs := #[_]) rfl rfl Tryd.call22 (fun w hs => gl_Check (some ⟨b30, 0, none⟩) _ 1 gBad w (GluAt.of_ownG (q := (some ⟨b30, 0, none⟩, 1)) (g := gBad) (by decide +kernel) (hs.at (i := 9) rfl)))) (fun _ _ => ?_)
  refine RunL.still rfl rfl rfl (Still.eql rfl rfl rfl) ?_
  refine RunL.again (t := 122) (u := .bool true) rfl (congrArg Value.bool (decide_eq_true (chkG_bad bad_no))) ?_
  refine RunL.still rfl rfl rfl (Still.pickT rfl rfl rfl) ?_
  refine RunL.still rfl rfl rfl (Still.move rfl rfl) ?_
  refine RunL.still rfl rfl rfl (Still.loads rfl rfl Tryd.isAgg33 Tryd.sizeOf33 (vs := [_]) rfl (fun _ hs => cells_nth (hs.at (i := 12) rfl) ⟨rfl, trivial⟩)) ?_
  refine RunL.grows rfl rfl rfl (Grows.call (vs := #[_]) rfl rfl Tryd.call22 (fun w hs => gl_Check (some ⟨b16, 0, none⟩) _ 1 gOne w (GluAt.of_ownG (q := (some ⟨b16, 0, none⟩, 1)) (g := gOne) (by decide +kernel) (hs.at (i := 13) rfl)))) (fun _ _ => ?_)
  refine RunL.still rfl rfl rfl (Still.eql rfl rfl rfl) ?_
  refine RunL.again (t := 127) (u := .bool true) rfl (congrArg Value.bool (decide_eq_true (chkG_ok one_ok))) ?_
  refine RunL.still rfl rfl rfl (Still.pickT rfl rfl rfl) ?_
  refine RunL.still rfl rfl rfl (Still.move rfl rfl) ?_
  refine RunL.still rfl rfl rfl (Still.build_1_1_1_1 (fun x0_0 x1_0 x2_0 x3_0 => .agg #[x0_0, x1_0, x2_0, x3_0]) rfl rfl rfl rfl rfl (fun _ => by kernel_rfl)) ?_
  refine RunL.still rfl rfl rfl (Still.build_1_1_1_1 (fun x0_0 x1_0 x2_0 x3_0 => .agg #[x0_0, x1_0, x2_0, x3_0]) rfl rfl rfl rfl rfl (fun _ => by kernel_rfl)) ?_
  refine RunL.grows rfl rfl rfl (Grows.call (vs := #[_, _]) rfl rfl Tryd.call7 (fun w hs => gl_Compose ⟨1, 2, 3, 0⟩ ⟨1, 0, 2, 3⟩ w)) (fun _ _ => ?_)
  refine RunL.still rfl rfl rfl (Still.build_1_1_1_1 (fun x0_0 x1_0 x2_0 x3_0 => .agg #[x0_0, x1_0, x2_0, x3_0]) rfl rfl rfl rfl rfl (fun _ => by kernel_rfl)) ?_
  refine RunL.still rfl rfl rfl (Still.eqlAgg rfl rfl rfl Tryd.eqGuardType23 (fun _ => eqP _ _ _ _ _ _ _ _ _ _)) ?_
  refine RunL.again (t := 134) (u := .bool true) rfl (congrArg Value.bool (by decide +kernel)) ?_
  refine RunL.still rfl rfl rfl (Still.pickT rfl rfl rfl) ?_
  refine RunL.still rfl rfl rfl (Still.move rfl rfl) ?_
  refine RunL.still rfl rfl rfl (Still.build_1_1_1_1 (fun x0_0 x1_0 x2_0 x3_0 => .agg #[x0_0, x1_0, x2_0, x3_0]) rfl rfl rfl rfl rfl (fun _ => by kernel_rfl)) ?_
  refine RunL.grows rfl rfl rfl (Grows.call (vs := #[_]) rfl rfl Tryd.call11 (fun w hs => gl_Sign ⟨1, 0, 2, 3⟩ w)) (fun _ _ => ?_)
  refine RunL.still rfl rfl rfl (Still.eql rfl rfl rfl) ?_
  refine RunL.again (t := 139) (u := .bool true) rfl (congrArg Value.bool (by decide +kernel)) ?_
  refine RunL.still rfl rfl rfl (Still.pickT rfl rfl rfl) ?_
  refine RunL.still rfl rfl rfl (Still.move rfl rfl) ?_
  refine RunL.still rfl rfl rfl (Still.build_1_1_1_1 (fun x0_0 x1_0 x2_0 x3_0 => .agg #[x0_0, x1_0, x2_0, x3_0]) rfl rfl rfl rfl rfl (fun _ => by kernel_rfl)) ?_
  refine RunL.grows rfl rfl rfl (Grows.call (vs := #[_]) rfl rfl Tryd.call11 (fun w hs => gl_Sign ⟨1, 2, 0, 3⟩ w)) (fun _ _ => ?_)
  refine RunL.still rfl rfl rfl (Still.eql rfl rfl rfl) ?_
  refine RunL.again (t := 144) (u := .bool true) rfl (congrArg Value.bool (by decide +kernel)) ?_
  refine RunL.still rfl rfl rfl (Still.pickT rfl rfl rfl) ?_
  refine RunL.still rfl rfl rfl (Still.move rfl rfl) ?_
  refine RunL.still rfl rfl rfl (Still.build_1_1_1_1 (fun x0_0 x1_0 x2_0 x3_0 => .agg #[x0_0, x1_0, x2_0, x3_0]) rfl rfl rfl rfl rfl (fun _ => by kernel_rfl)) ?_
  refine RunL.grows rfl rfl rfl (Grows.call (vs := #[_]) rfl rfl Tryd.call5 (fun w hs => gl_Valid ⟨1, 2, 0, 3⟩ w)) (fun _ _ => ?_)
  refine RunL.again (t := 148) (u := .bool true) rfl (congrArg Value.bool (by decide +kernel)) ?_
  refine RunL.still rfl rfl rfl (Still.pickT rfl rfl rfl) ?_
  refine RunL.still rfl rfl rfl (Still.assign rfl rfl) ?_
  refine RunL.nil ?_
  refine Ends.then ?_
  refine RunC.ret ?_
  refine Ends.leave (.inl rfl) (fun _ _ ok => results1 Tryd.results4 (Holds.tmp rfl) ok) (fun w1 hs => ?_)
  exact Ret.intro () trivial rfl (HSub.nil _) hs

end Go.Proofs
/- The proof layer, part y: regions that draw their order, whose operations yield the same in each order: one walk. -/
namespace Go.V
open Go
section anyk
def dstOf (ops : Array Oper) (i : Nat) : Option Nat := (ops[i]?).bind (·.dst)
def slotsOf (ops : Array Oper) : List Nat := ops.toList.filterMap (·.dst)
/-- Each operation has a slot of its own; edges lead back. -/
def kOk (ops : Array Oper) : Bool :=
  Region.noSelect ops && noDefer ops && (List.range ops.size).all fun i => (dstOf ops i).isSome && ((List.range i).all fun j => !decide (dstOf ops i = dstOf ops j)) && ((ops[i]?).map fun o => o.after.all fun e => Nat.blt e.on i).getD false
structure KInv (C : Cx) (ops : Array Oper) (F0 : Fr) (L : List HL) (vals : Nat → Value) (listed : Array Bool) (a : Act) (w : World) : Prop where
  size : listed.size = ops.size
  at0 : At C.n C.D F0 a
  got : ∀ i d, i < ops.size → listed.getD i false = true → dstOf ops i = some d → a.tmps[d]? = some (vals i)
  sym : Sym C.w0 C.S L w
def KS (C : Cx) (ops : Array Oper) (F0 : Fr) (L : List HL) (vals : Nat → Value) (i : Nat) : Prop :=
  ∀ listed a w, KInv C ops F0 L vals listed a w → i ∈ Region.ready .any ops listed → ∀ K : Act → World → Prop, (∀ a' w', KInv C ops F0 L vals (listed.setIfInBounds i true) a' w' → K a' w') → wpOpIn (FW C.r) 0 C.P ops NoQ i K a w
theorem kOk_at {ops : Array Oper} (h : kOk ops = true) {i : Nat} (hi : i < ops.size) : (∃ d, dstOf ops i = some d) ∧ (∀ j, j < i → dstOf ops i ≠ dstOf ops j) ∧ ∀ o, ops[i]? = some o → ∀ e ∈ o.after, e.on < i := by
  simp only [kOk, Bool.and_eq_true] at h
  have h1 := List.all_eq_true.1 h.2 i (List.mem_range.2 hi)
  simp only [Bool.and_eq_true] at h1
  refine ⟨Option.isSome_iff_exists.1 h1.1.1, fun j hj e => ?_, fun o ho e he => ?_⟩
  · have := List.all_eq_true.1 h1.1.2 j (List.mem_range.2 hj)
    simp [e] at this
  · have h2 := h1.2
    rw [ho] at h2
    have h2 : (o.after.all fun e => Nat.blt e.on i) = true := h2
    have := Array.all_eq_true_iff_forall_mem.1 h2 e he
    simpa using this
theorem dst_inj {ops : Array Oper} (h : kOk ops = true) {i j d : Nat} (hi : i < ops.size) (hj : j < ops.size) (e1 : dstOf ops i = some d) (e2 : dstOf ops j = some d) : i = j := by
  rcases Nat.lt_trichotomy i j with hl | hl | hl
  · exact absurd (e2.trans e1.symm) ((kOk_at h hj).2.1 i hl)
  · exact hl
  · exact absurd (e1.trans e2.symm) ((kOk_at h hi).2.1 j hl)
def unlisted (listed : Array Bool) : Nat := (listed.toList.filter fun b => !b).length
theorem unlisted_set {listed : Array Bool} {i : Nat} (h : listed.getD i true = false) : unlisted listed = unlisted (listed.setIfInBounds i true) + 1 := by
  have hi : i < listed.size := by
    rcases Nat.lt_or_ge i listed.size with h1 | h1
    · exact h1
    · rw [Array.getD_eq_getD_getElem?, Array.getElem?_eq_none h1] at h; cases h
  have key : ∀ (l : List Bool) (i : Nat), l[i]? = some false → (l.filter fun b => !b).length = ((l.set i true).filter fun b => !b).length + 1 := by
    intro l
    induction l with
    | nil => intro i hi; simp at hi
    | cons b r ih =>
      intro i hi
      cases i with
      | zero => simp at hi; subst hi; simp
      | succ i =>
        have := ih i (by simpa using hi)
        cases b <;> simp at this ⊢ <;> omega
  have h2 : listed.toList[i]? = some false := by
    rw [Array.getD_eq_getD_getElem?, Array.getElem?_eq_getElem hi] at h
    rw [Array.getElem?_toList, Array.getElem?_eq_getElem hi]
    simpa using h
  rw [unlisted, unlisted, Array.toList_setIfInBounds]
  exact key _ _ h2
theorem head_of_KS {C : Cx} {ops : Array Oper} {F0 : Fr} {L : List HL} {vals : Nat → Value} {T : Act → World → Prop} (hB : kOk ops = true) (hk : ∀ i, i < ops.size → KS C ops F0 L vals i)
    (hT : ∀ listed a w, KInv C ops F0 L vals listed a w → (∀ i, i < ops.size → listed.getD i false = true) → T a w) :
    ∀ (f : Nat) (listed : Array Bool) (a : Act) (w : World), KInv C ops F0 L vals listed a w → unlisted listed = f → wpHeadP C.r C.P .any ops (fun _ a w => T a w) f listed a w
  | 0, listed, a, w, inv, hf => by
    have hall : ∀ i, i < ops.size → listed.getD i true = true := fun i hi => by
      cases h : listed.getD i true
      · have := unlisted_set h; omega
      · rfl
    have hall' : ∀ i, i < ops.size → listed.getD i false = true := fun i hi => by
      have h := hall i hi
      have hs : i < listed.size := by rw [inv.size]; exact hi
      rw [Array.getD_eq_getD_getElem?, Array.getElem?_eq_getElem hs] at h ⊢
      simpa using h
    refine ⟨?_, hT listed a w inv hall'⟩
    apply List.eq_nil_iff_forall_not_mem.2
    intro j hj
    obtain ⟨h1, o, ho, _⟩ := mem_ready.1 hj
    have hjs : j < ops.size := (Array.getElem?_eq_some_iff.1 ho).1
    rw [hall j hjs] at h1; cases h1
  | f + 1, listed, a, w, inv, hf => by
    refine ⟨fun h0 => ?_, fun i hi => ?_⟩
    · -- the first that is not listed is ready
      have hex : ∃ i, i < ops.size ∧ listed.getD i true = false := by
        by_cases h : ∃ i, i < ops.size ∧ listed.getD i true = false
        · exact h
        · exfalso
          have : unlisted listed = 0 := by
            rw [unlisted, List.length_eq_zero_iff, List.filter_eq_nil_iff]
            intro b hb hb2
            obtain ⟨i, hi⟩ := List.getElem?_of_mem hb
            have hil := (List.getElem?_eq_some_iff.1 hi).1
            have hil2 : i < listed.size := by simpa using hil
            refine h ⟨i, by rw [← inv.size]; exact hil2, ?_⟩
            rw [Array.getElem?_toList] at hi
            rw [Array.getD_eq_getD_getElem?, hi]
            cases b <;> simp at hb2 ⊢
          omega
      have key : ∀ n i, i < n → i < ops.size → listed.getD i true = false → ∃ j, j ∈ Region.ready .any ops listed := by
        intro n
        induction n with
        | zero => intro i hi; omega
        | succ n ih =>
          intro i hi his hl
          by_cases hr : i ∈ Region.ready .any ops listed
          · exact ⟨i, hr⟩
          · obtain ⟨o, ho⟩ : ∃ o, ops[i]? = some o := ⟨ops[i], Array.getElem?_eq_getElem his⟩
            have hne : ¬ ∀ e ∈ o.after, Region.binds .any e = true → listed.getD e.on false = true := fun h => hr (mem_ready.2 ⟨hl, o, ho, h⟩)
            have : ∃ e, e ∈ o.after ∧ ¬ listed.getD e.on false = true := by
              by_cases hx : ∃ e, e ∈ o.after ∧ ¬ listed.getD e.on false = true
              · exact hx
              · exact absurd (fun e he _ => by by_cases h3 : listed.getD e.on false = true; exact h3; exact absurd ⟨e, he, h3⟩ hx) hne
            obtain ⟨e, he, h3⟩ := this
            have hlt := (kOk_at hB his).2.2 o ho e he
            have hes : e.on < listed.size := by rw [inv.size]; omega
            refine ih e.on (by omega) (by omega) ?_
            rw [Array.getD_eq_getD_getElem?, Array.getElem?_eq_getElem hes] at h3 ⊢
            simpa using h3
      obtain ⟨i, his, hl⟩ := hex
      obtain ⟨j, hj⟩ := key (i + 1) i (by omega) his hl
      rw [h0] at hj; cases hj
    · obtain ⟨hl, o, ho, _⟩ := mem_ready.1 hi
      have his : i < ops.size := (Array.getElem?_eq_some_iff.1 ho).1
      refine hk i his listed a w inv hi _ (fun a' w' inv' => head_of_KS hB hk hT f _ a' w' inv' ?_)
      have := unlisted_set hl; omega
/-- The operations so far yield the values of A (the last one first). -/
def SA (ops : Array Oper) (A : Fr) : Prop := ∀ i, i < A.length → ∃ d v, A[A.length - 1 - i]? = some (d, v) ∧ dstOf ops i = some d
def Agree (A : Fr) (vals : Nat → Value) : Prop := ∀ i d v, i < A.length → A[A.length - 1 - i]? = some (d, v) → vals i = v
def RunK (C : Cx) (id : Nat) (l : List Oper) (Q : Exit → Act → World → Prop) (F0 : Fr) (L : List HL) (A : Fr) : Prop :=
  kOk l.toArray = true → SA l.toArray A → (∀ vals, Agree A vals → ∀ i, i < A.length → KS C l.toArray F0 L vals i) → ∀ a w, At C.n C.D F0 a → Sym C.w0 C.S L w → (Code.region id l.toArray true).wpIn (FW C.r) 0 C.P Q a w
variable {C : Cx} {Q : Exit → Act → World → Prop} {F F0 A : Fr} {L : List HL} {id : Nat} {l : List Oper}
theorem RunC.anyK (hB : kOk l.toArray = true) (h : RunK C id l Q (F.forget (slotsOf l.toArray)) L []) : RunC C (.region id l.toArray true) Q F L := fun a w ok =>
  h hB (fun i hi => absurd hi (Nat.not_lt_zero i)) (fun _ _ i hi => absurd hi (Nat.not_lt_zero i)) a w (ok.fr.sub (Fr.Sub.forget _ _)) ok.sym
theorem fr_mem {F : Fr} {t : Nat} {v : Value} (h : F.get t = some v) : (t, v) ∈ F := by
  induction F with
  | nil => simp [Fr.get] at h
  | cons p r ih =>
    obtain ⟨k, u⟩ := p
    rw [Fr.get_cons] at h
    by_cases e : k = t
    · rw [if_pos e] at h; cases h; subst e; exact List.mem_cons_self ..
    · rw [if_neg e] at h; exact List.mem_cons_of_mem _ (ih h)
theorem RunK.done (hm : C.P.follows .mixedOrders = true) (hl : Nat.beq A.length l.toArray.size = true) (h : Ends C .normal Q (A ++ F0) L) : RunK C id l Q F0 L A := fun hB hS hg a w h0 hs => by
  have hl : A.length = l.toArray.size := Nat.eq_of_beq_eq_true hl
  let vals : Nat → Value := fun i => ((A[A.length - 1 - i]?).map (·.2)).getD undef
  have hA : Agree A vals := fun i d v _ e => by show ((A[A.length - 1 - i]?).map (·.2)).getD undef = v; rw [e]; rfl
  have hk := hg vals hA
  have inv0 : KInv C l.toArray F0 L vals (Array.replicate l.toArray.size false) a w.drew :=
    ⟨by simp, h0, fun i d hi hl => (by rw [Array.getD_eq_getD_getElem?, Array.getElem?_replicate] at hl; split at hl <;> simp at hl), hs.drew⟩
  have H := head_of_KS (T := fun a w => Q .normal a w) hB (fun i hi => hk i (by omega)) (fun listed a w inv hall => by
    refine h a w ⟨⟨inv.at0.size, inv.at0.defers, fun t v ht => ?_⟩, inv.sym⟩
    rw [Fr.get_append] at ht
    cases hA1 : Fr.get A t with
    | none => rw [hA1] at ht; exact inv.at0.slot t v ht
    | some u =>
      rw [hA1] at ht
      have e : u = v := by simpa using ht
      subst e
      obtain ⟨j, hj⟩ := List.getElem?_of_mem (fr_mem hA1)
      have hjl := (List.getElem?_eq_some_iff.1 hj).1
      have hi : A.length - 1 - j < A.length := by omega
      obtain ⟨d, v', e1, e2⟩ := hS _ hi
      rw [show A.length - 1 - (A.length - 1 - j) = j by omega, hj] at e1
      cases e1
      rw [inv.got _ t (by omega) (hall _ (by omega)) e2]
      show some (((A[A.length - 1 - (A.length - 1 - j)]?).map (·.2)).getD undef) = some u
      rw [show A.length - 1 - (A.length - 1 - j) = j by omega, hj]; rfl) _ _ _ _ inv0 rfl
  have hu : unlisted (Array.replicate l.toArray.size false) = l.toArray.size := by simp [unlisted]
  rw [hu] at H
  exact wpIn_region_any hm (wpAny_of_headP _ _ _ _ H)
def tsOk (ops : Array Oper) (o : Oper) (ts : List Nat) : Bool := ts.all fun t => o.after.toList.any fun e => Region.binds .any e && (match dstOf ops e.on with | some d => Nat.beq d t | none => false)
/-- What an operation may look at: what it must come behind. -/
def onlyK (ts : List Nat) (A : Fr) : Fr := A.filter fun p => ts.elem p.1
theorem ok_of_inv {vals : Nat → Value} {listed : Array Bool} {a : Act} {w : World} {k : Nat} {o : Oper} {ts : List Nat} (hB : kOk l.toArray = true) (hS : SA l.toArray A) (hAg : Agree A vals) (hlen : A.length = k) (hks : k < l.toArray.size) (ho : l.toArray[k]? = some o) (hts : tsOk l.toArray o ts = true)
    (inv : KInv C l.toArray F0 L vals listed a w) (hr : k ∈ Region.ready .any l.toArray listed) : Ok C (onlyK ts A ++ F0) L a w := by
  refine ⟨⟨inv.at0.size, inv.at0.defers, fun t v ht => ?_⟩, inv.sym⟩
  rw [Fr.get_append] at ht
  cases hA1 : Fr.get (onlyK ts A) t with
  | none => rw [hA1] at ht; exact inv.at0.slot t v ht
  | some u =>
    rw [hA1] at ht
    have e : u = v := by simpa using ht
    subst e
    have hm := List.mem_filter.1 (fr_mem hA1)
    have ht2 : t ∈ ts := by simpa using hm.2
    have h1 := List.all_eq_true.1 hts t ht2
    obtain ⟨e, he', h2⟩ := List.any_eq_true.1 h1
    have he : e ∈ o.after := by simpa using he'
    rw [Bool.and_eq_true] at h2
    obtain ⟨j, hj⟩ := List.getElem?_of_mem hm.1
    have hjl := (List.getElem?_eq_some_iff.1 hj).1
    obtain ⟨d, v', e1, e2⟩ := hS (A.length - 1 - j) (by omega)
    rw [show A.length - 1 - (A.length - 1 - j) = j by omega, hj] at e1
    cases e1
    have e3 : dstOf l.toArray e.on = some t := by
      have h3 := h2.2
      cases hd : dstOf l.toArray e.on with
      | none => rw [hd] at h3; cases h3
      | some d => rw [hd] at h3; rw [Nat.eq_of_beq_eq_true h3]
    have hlt := (kOk_at hB hks).2.2 o ho e he
    have hei : e.on = A.length - 1 - j := dst_inj hB (by omega) (by omega) e3 e2
    obtain ⟨_, o', ho', hall⟩ := mem_ready.1 hr
    rw [ho] at ho'; cases ho'
    have := inv.got e.on t (by omega) (hall e he h2.1) e3
    rw [this]
    have hv := hAg (A.length - 1 - j) t u (by omega) (by rw [show A.length - 1 - (A.length - 1 - j) = j by omega]; exact hj)
    rw [hei, hv]
theorem inv_put {vals : Nat → Value} {listed : Array Bool} {a : Act} {w w' : World} {k d : Nat} (hB : kOk l.toArray = true) (hks : k < l.toArray.size) (hd : dstOf l.toArray k = some d) (hn : d < C.n) (hF0 : F0.get d = none)
    (inv : KInv C l.toArray F0 L vals listed a w) (hs : Sym C.w0 C.S L w') : KInv C l.toArray F0 L vals (listed.setIfInBounds k true) (a.put (some d) (vals k)) w' := by
  have hp := inv.at0.put hn (vals k)
  refine ⟨by simp [inv.size], ⟨hp.size, hp.defers, fun t v ht => hp.slot t v (by
    rw [Fr.get_cons, if_neg (fun e => by subst e; rw [hF0] at ht; cases ht)]; exact ht)⟩, fun i d' hi hl hd' => ?_, hs⟩
  have hsz : d < a.tmps.size := by rw [inv.at0.size]; exact hn
  by_cases e : k = i
  · subst e
    rw [hd] at hd'; cases hd'
    show (a.tmps.setIfInBounds d (vals k))[d]? = _
    rw [Array.getElem?_setIfInBounds_self_of_lt hsz]
  · have hne : d ≠ d' := fun e2 => e (dst_inj hB hks hi hd (e2 ▸ hd'))
    show (a.tmps.setIfInBounds d (vals k))[d']? = _
    rw [Array.getElem?_setIfInBounds_ne hne]
    refine inv.got i d' hi ?_ hd'
    rw [Array.getD_eq_getD_getElem?, Array.getElem?_setIfInBounds_ne e] at hl
    rw [Array.getD_eq_getD_getElem?]; exact hl
theorem RunK.snoc {k d : Nat} {v : Value} {o : Oper} (hk : A.length = k) (ho : l.toArray[k]? = some o) (hd : o.dst = some d)
    (hks : kOk l.toArray = true → ∀ vals, SA l.toArray A → Agree A vals → vals k = v → KS C l.toArray F0 L vals k) (h : RunK C id l Q F0 L ((d, v) :: A)) : RunK C id l Q F0 L A := fun hB hS hg => by
  have hlen : ((d, v) :: A).length = k + 1 := by simp [hk]
  have hold : ∀ i, i < k → ((d, v) :: A)[((d, v) :: A).length - 1 - i]? = A[A.length - 1 - i]? := fun i hi => by
    rw [hlen, show k + 1 - 1 - i = (k - 1 - i) + 1 by omega, List.getElem?_cons_succ, hk]
  refine h hB (fun i hi => ?_) (fun vals hA i hi => ?_)
  · rcases Nat.lt_or_ge i k with h1 | h1
    · rw [hold i h1]; exact hS i (by omega)
    · obtain rfl : i = k := by omega
      exact ⟨d, v, by rw [hlen, show i + 1 - 1 - i = 0 by omega]; rfl, by rw [dstOf, ho]; exact hd⟩
  · have hA' : Agree A vals := fun j d' v' hj e => hA j d' v' (by omega) (by rw [hold j (by omega)]; exact e)
    rcases Nat.lt_or_ge i k with h1 | h1
    · exact hg vals hA' i (by omega)
    · obtain rfl : i = k := by omega
      exact hks hB vals hS hA' (hA i d v (by omega) (by rw [hlen, show i + 1 - 1 - i = 0 by omega]; rfl))
theorem RunK.grows {d : Nat} {v : Value} {o : Oper} (ts : List Nat) (ho : l.toArray[A.length]? = some o) (hts : tsOk l.toArray o ts = true) (hw : wants l.toArray (onlyK ts A ++ F0) o = some true) (hd : o.dst = some d) (hn : Nat.blt d C.n = true) (hF0 : F0.get d = none)
    (hg : Grows C o (onlyK ts A ++ F0) L (fun _ : Unit => True) (fun _ => v) (fun _ => [])) (h : RunK C id l Q F0 L ((d, v) :: A)) : RunK C id l Q F0 L A :=
  RunK.snoc rfl ho hd (fun hB vals hS hAg hv listed a w inv hr K hK => by
    have hks : A.length < l.toArray.size := (Array.getElem?_eq_some_iff.1 ho).1
    have ok := ok_of_inv hB hS hAg rfl hks ho hts inv hr
    unfold wpOpIn
    simp only [ho, wants_ok ok hw, if_true]
    refine hg a w ok _ _ (fun _ w' _ _ hs => hK _ w' ?_)
    rw [hd, ← hv]
    exact inv_put hB hks (by rw [dstOf, ho]; exact hd) (by simpa using hn) hF0 inv hs) h
theorem RunK.still {d : Nat} {v : Value} {o : Oper} (ts : List Nat) (ho : l.toArray[A.length]? = some o) (hts : tsOk l.toArray o ts = true) (hw : wants l.toArray (onlyK ts A ++ F0) o = some true) (hd : o.dst = some d) (hn : Nat.blt d C.n = true) (hF0 : F0.get d = none)
    (hg : Still C o (onlyK ts A ++ F0) L v) (h : RunK C id l Q F0 L ((d, v) :: A)) : RunK C id l Q F0 L A :=
  RunK.snoc rfl ho hd (fun hB vals hS hAg hv listed a w inv hr K hK => by
    have hks : A.length < l.toArray.size := (Array.getElem?_eq_some_iff.1 ho).1
    have ok := ok_of_inv hB hS hAg rfl hks ho hts inv hr
    unfold wpOpIn
    simp only [ho, wants_ok ok hw, if_true]
    refine still_wpIn hg ok (hK _ w ?_)
    rw [hd, ← hv]
    exact inv_put hB hks (by rw [dstOf, ho]; exact hd) (by simpa using hn) hF0 inv inv.sym) h
theorem RunK.off {d : Nat} {o : Oper} (ts : List Nat) (ho : l.toArray[A.length]? = some o) (hts : tsOk l.toArray o ts = true) (hw : wants l.toArray (onlyK ts A ++ F0) o = some false) (hd : o.dst = some d) (hn : Nat.blt d C.n = true) (hF0 : F0.get d = none)
    (h : RunK C id l Q F0 L ((d, undef) :: A)) : RunK C id l Q F0 L A :=
  RunK.snoc rfl ho hd (fun hB vals hS hAg hv listed a w inv hr K hK => by
    have hks : A.length < l.toArray.size := (Array.getElem?_eq_some_iff.1 ho).1
    have ok := ok_of_inv hB hS hAg rfl hks ho hts inv hr
    unfold wpOpIn
    simp only [ho, wants_ok ok hw, Bool.false_eq_true, if_false]
    refine ⟨fun _ _ => trivial, hK _ w ?_⟩
    rw [hd, ← hv]
    exact inv_put hB hks (by rw [dstOf, ho]; exact hd) (by simpa using hn) hF0 inv inv.sym) h
theorem RunK.again {t : Nat} {u v : Value} (e : v = u) (h : RunK C id l Q F0 L ((t, u) :: A)) : RunK C id l Q F0 L ((t, v) :: A) := e ▸ h
theorem RunK.split {t : Nat} {b : Bool} (h1 : b = true → RunK C id l Q F0 L ((t, .bool true) :: A)) (h2 : b = false → RunK C id l Q F0 L ((t, .bool false) :: A)) : RunK C id l Q F0 L ((t, .bool b) :: A) := by
  cases b
  · exact h2 rfl
  · exact h1 rfl
end anyk
end Go.V
/- The statement GluePerms: the walk. -/
namespace Go.Proofs
open Go Go.V
set_option maxRecDepth 20000
theorem gl_Inverse (p : P4) (w : World) : Gives Tryd.prog 9 #[p4V p] w Nil (fun _ : Unit => True) (fun _ => p4V (invR p)) (fun _ => []) := by
  refine fn_of_run (S := Nil) (args := [p4V p]) (n := 9) (L := []) Tryd.func9 rfl Tryd.ntmps9 (Nat.le_of_ble_eq_true rfl) (Sym.nil _ _) ?_
  change RunC _ _ _ [(0, _)] _
  refine RunC.seq ?_
  refine RunC.region ?_
  refine RunL.grows rfl rfl rfl (Grows.box rfl rfl) (fun b1 _ => ?_)
  refine RunL.grows rfl rfl rfl (Grows.alloc rfl Tryd.zeroValue23) (fun b2 _ => ?_)
  refine RunL.nil ?_
  refine Ends.then ?_
  refine RunC.seq ?_
  refine RunC.seq ?_
  refine RunC.region ?_
  refine RunL.still rfl rfl rfl (Still.loads rfl rfl Tryd.isAgg23 Tryd.sizeOf23 (vs := [_, _, _, _]) rfl (fun _ hs => cells_nth (hs.at (i := 1) rfl) ⟨rfl, ⟨rfl, ⟨rfl, ⟨rfl, trivial⟩⟩⟩⟩)) ?_
  refine RunL.grows rfl rfl rfl (Grows.call (vs := #[_]) rfl rfl Tryd.call5 (fun w hs => gl_Valid p w)) (fun _ _ => ?_)
  refine RunL.still rfl rfl rfl (Still.not rfl rfl) ?_
  refine RunL.nil ?_
  refine Ends.then ?_
  refine RunC.cond rfl (fun h5 => ?_) (fun h5 => ?_)
  · have hp : okP p = false := by simpa using h5
    refine RunC.seq ?_
    refine RunC.region ?_
    refine RunL.still rfl rfl rfl (Still.build_0 (.agg #[.int .i64 0, .int .i64 0, .int .i64 0, .int .i64 0]) rfl (fun _ => by kernel_rfl)) ?_
    refine RunL.does0 rfl rfl (Does.store rfl rfl rfl (i := 0) rfl Tryd.sizeOf23 rfl (rfl) rfl) (fun _ _ => ?_)
    refine RunL.nil ?_
    refine Ends.then ?_
    refine RunC.ret ?_
    refine Ends.then_ret ?_
    refine Ends.leave (.inl rfl) (fun _ _ ok => results1 Tryd.results9 (Holds.cell rfl (fun _ hs => load_cells (vs := [_, _, _, _]) Tryd.isAgg23 Tryd.sizeOf23 rfl (cells_nth (hs.at (i := 0) rfl) ⟨rfl, ⟨rfl, ⟨rfl, ⟨rfl, trivial⟩⟩⟩⟩))) ok) (fun w1 hs => ?_)
    exact Ret.intro () trivial (by rw [invR, if_neg (by simp [hp])]; rfl) (HSub.nil _) hs
  · have hp : okP p = true := by simpa using h5
    refine RunC.skip ?_
    refine Ends.then ?_
    refine RunC.seq ?_
    refine RunC.region ?_
    refine RunL.still rfl rfl rfl (Still.loads rfl rfl Tryd.isAgg23 Tryd.sizeOf23 (vs := [_, _, _, _]) rfl (fun _ hs => cells_nth (hs.at (i := 1) rfl) ⟨rfl, ⟨rfl, ⟨rfl, ⟨rfl, trivial⟩⟩⟩⟩)) ?_
    refine RunL.grows rfl rfl rfl (Grows.call (vs := #[_]) rfl rfl Tryd.call24 (fun w hs => gl_inverse p w hp)) (fun _ _ => ?_)
    refine RunL.does0 rfl rfl (Does.store rfl rfl rfl (i := 0) rfl Tryd.sizeOf23 rfl (rfl) rfl) (fun _ _ => ?_)
    refine RunL.nil ?_
    refine Ends.then ?_
    refine RunC.ret ?_
    refine Ends.leave (.inl rfl) (fun _ _ ok => results1 Tryd.results9 (Holds.cell rfl (fun _ hs => load_cells (vs := [_, _, _, _]) Tryd.isAgg23 Tryd.sizeOf23 rfl (cells_nth (hs.at (i := 0) rfl) ⟨rfl, ⟨rfl, ⟨rfl, ⟨rfl, trivial⟩⟩⟩⟩))) ok) (fun w2 hs => ?_)
    exact Ret.intro () trivial (by rw [invR, if_pos hp]) (HSub.nil _) hs

theorem cR {p q : P4} (hp : okP p = true) (hq : okP q = true) : compR p q = compP p q := if_pos ⟨hp, hq⟩
theorem cR_assoc {p q r : P4} (hp : okP p = true) (hq : okP q = true) (hr : okP r = true) : compR (compR p q) r = compR p (compR q r) := by
  rw [cR hp hq, cR hq hr, cR (comp_ok hp hq) hr, cR hp (comp_ok hq hr), comp_assoc hr]
theorem cR_inv {p : P4} (hp : okP p = true) : compR p (invR p) = idP := by
  rw [invR, if_pos hp, cR hp (invP_ok hp), comp_inv hp]
theorem sR_comp {p q : P4} (hp : okP p = true) (hq : okP q = true) : sgnR (compR p q) = sgnR p * sgnR q := by
  rw [cR hp hq, sgnR, if_pos (comp_ok hp hq), sgnR, if_pos hp, sgnR, if_pos hq, sgn_comp hp hq]
theorem sR_one (p : P4) : -1 ≤ sgnR p ∧ sgnR p ≤ 1 := by
  rw [sgnR]; split
  · have := sgnP_one p; omega
  · omega
theorem sR_mul (p q : P4) : -1 ≤ sgnR p * sgnR q ∧ sgnR p * sgnR q ≤ 1 := by
  have h1 := sR_one p; have h2 := sR_one q
  have e1 : sgnR p = -1 ∨ sgnR p = 0 ∨ sgnR p = 1 := by omega
  rcases e1 with e | e | e <;> rw [e] <;> omega

theorem lw_GluePerms (p q r : P4) (w : World) (he : Env w) : Gives Tryd.prog 3 #[p4V p, p4V q, p4V r] w Nil (fun _ : Unit => True) (fun _ => .bool true) (fun _ => []) := by
  refine fn_of_run (S := Nil) (args := [p4V p, p4V q, p4V r]) (n := 83) (L := []) Tryd.func3 rfl Tryd.ntmps3 (Nat.le_of_ble_eq_true rfl) (Sym.nil _ _) ?_
  change RunC _ _ _ [(0, _), (1, _), (2, _)] _
  refine RunC.seq ?_
  refine RunC.region ?_
  refine RunL.grows rfl rfl rfl (Grows.box rfl rfl) (fun b3 _ => ?_)
  refine RunL.grows rfl rfl rfl (Grows.box rfl rfl) (fun b4 _ => ?_)
  refine RunL.grows rfl rfl rfl (Grows.box rfl rfl) (fun b5 _ => ?_)
  refine RunL.still rfl rfl rfl (Still.assign rfl rfl) ?_
  refine RunL.nil ?_
  refine Ends.then ?_
  refine RunC.seq ?_
  refine RunC.seq ?_
  refine RunC.anyK (by kernel_rfl) ?_
  refine RunK.grows [] rfl rfl rfl rfl rfl rfl (Grows.call (vs := #[]) rfl rfl Tryd.call4 (fun w hs => lw_sane w (he.sym hs))) ?_
  refine RunK.still [7] rfl rfl rfl rfl rfl rfl (Still.not rfl rfl) ?_
  refine RunK.again (t := 8) (u := .bool false) (rfl) ?_
  refine RunK.still [7, 8] rfl rfl rfl rfl rfl rfl (Still.move rfl rfl) ?_
  refine RunK.still [9] rfl rfl rfl rfl rfl rfl (Still.loads rfl rfl Tryd.isAgg23 Tryd.sizeOf23 (vs := [_, _, _, _]) rfl (fun _ hs => cells_nth (hs.at (i := 2) rfl) ⟨rfl, ⟨rfl, ⟨rfl, ⟨rfl, trivial⟩⟩⟩⟩)) ?_
  refine RunK.grows [9, 10] rfl rfl rfl rfl rfl rfl (Grows.call (vs := #[_]) rfl rfl Tryd.call5 (fun w hs => gl_Valid p w)) ?_
  refine RunK.still [9] rfl rfl rfl rfl rfl rfl (Still.loads rfl rfl Tryd.isAgg23 Tryd.sizeOf23 (vs := [_, _, _, _]) rfl (fun _ hs => cells_nth (hs.at (i := 2) rfl) ⟨rfl, ⟨rfl, ⟨rfl, ⟨rfl, trivial⟩⟩⟩⟩)) ?_
  refine RunK.grows [9, 11, 12] rfl rfl rfl rfl rfl rfl (Grows.call (vs := #[_]) rfl rfl Tryd.call6 (fun w hs => rf_Valid p w)) ?_
  refine RunK.still [9, 11, 13] rfl rfl rfl rfl rfl rfl (Still.neqB rfl rfl rfl Tryd.underlying4) ?_
  refine RunK.again (t := 14) (u := .bool false) (congrArg Value.bool (by simp)) ?_
  refine RunK.still [9, 14] rfl rfl rfl rfl rfl rfl (Still.pickF rfl rfl rfl) ?_
  refine RunK.still [13, 15] rfl rfl rfl rfl rfl rfl (Still.move rfl rfl) ?_
  refine RunK.still [16] rfl rfl rfl rfl rfl rfl (Still.loads rfl rfl Tryd.isAgg23 Tryd.sizeOf23 (vs := [_, _, _, _]) rfl (fun _ hs => cells_nth (hs.at (i := 2) rfl) ⟨rfl, ⟨rfl, ⟨rfl, ⟨rfl, trivial⟩⟩⟩⟩)) ?_
  refine RunK.still [16] rfl rfl rfl rfl rfl rfl (Still.loads rfl rfl Tryd.isAgg23 Tryd.sizeOf23 (vs := [_, _, _, _]) rfl (fun _ hs => cells_nth (hs.at (i := 1) rfl) ⟨rfl, ⟨rfl, ⟨rfl, ⟨rfl, trivial⟩⟩⟩⟩)) ?_
  refine RunK.grows [16, 17, 18] rfl rfl rfl rfl rfl rfl (Grows.call (vs := #[_, _]) rfl rfl Tryd.call7 (fun w hs => gl_Compose p q w)) ?_
  refine RunK.still [16] rfl rfl rfl rfl rfl rfl (Still.loads rfl rfl Tryd.isAgg23 Tryd.sizeOf23 (vs := [_, _, _, _]) rfl (fun _ hs => cells_nth (hs.at (i := 2) rfl) ⟨rfl, ⟨rfl, ⟨rfl, ⟨rfl, trivial⟩⟩⟩⟩)) ?_
  refine RunK.still [16] rfl rfl rfl rfl rfl rfl (Still.loads rfl rfl Tryd.isAgg23 Tryd.sizeOf23 (vs := [_, _, _, _]) rfl (fun _ hs => cells_nth (hs.at (i := 1) rfl) ⟨rfl, ⟨rfl, ⟨rfl, ⟨rfl, trivial⟩⟩⟩⟩)) ?_
  refine RunK.grows [16, 19, 20, 21] rfl rfl rfl rfl rfl rfl (Grows.call (vs := #[_, _]) rfl rfl Tryd.call8 (fun w hs => rf_Compose p q w)) ?_
  refine RunK.still [16, 19, 22] rfl rfl rfl rfl rfl rfl (Still.neqAgg rfl rfl rfl Tryd.eqGuardType23 (fun _ => eqP _ _ _ _ _ _ _ _ _ _)) ?_
  refine RunK.again (t := 23) (u := .bool false) (congrArg Value.bool (by simp)) ?_
  refine RunK.still [16, 23] rfl rfl rfl rfl rfl rfl (Still.pickF rfl rfl rfl) ?_
  refine RunK.still [22, 24] rfl rfl rfl rfl rfl rfl (Still.move rfl rfl) ?_
  refine RunK.still [25] rfl rfl rfl rfl rfl rfl (Still.loads rfl rfl Tryd.isAgg23 Tryd.sizeOf23 (vs := [_, _, _, _]) rfl (fun _ hs => cells_nth (hs.at (i := 2) rfl) ⟨rfl, ⟨rfl, ⟨rfl, ⟨rfl, trivial⟩⟩⟩⟩)) ?_
  refine RunK.grows [25, 26] rfl rfl rfl rfl rfl rfl (Grows.call (vs := #[_]) rfl rfl Tryd.call9 (fun w hs => gl_Inverse p w)) ?_
  refine RunK.still [25] rfl rfl rfl rfl rfl rfl (Still.loads rfl rfl Tryd.isAgg23 Tryd.sizeOf23 (vs := [_, _, _, _]) rfl (fun _ hs => cells_nth (hs.at (i := 2) rfl) ⟨rfl, ⟨rfl, ⟨rfl, ⟨rfl, trivial⟩⟩⟩⟩)) ?_
  refine RunK.grows [25, 27, 28] rfl rfl rfl rfl rfl rfl (Grows.call (vs := #[_]) rfl rfl Tryd.call10 (fun w hs => rf_Inverse p w)) ?_
  refine RunK.still [25, 27, 29] rfl rfl rfl rfl rfl rfl (Still.neqAgg rfl rfl rfl Tryd.eqGuardType23 (fun _ => eqP _ _ _ _ _ _ _ _ _ _)) ?_
  refine RunK.again (t := 30) (u := .bool false) (congrArg Value.bool (by simp)) ?_
  refine RunK.still [25, 30] rfl rfl rfl rfl rfl rfl (Still.pickF rfl rfl rfl) ?_
  refine RunK.still [29, 31] rfl rfl rfl rfl rfl rfl (Still.move rfl rfl) ?_
  refine RunK.still [32] rfl rfl rfl rfl rfl rfl (Still.loads rfl rfl Tryd.isAgg23 Tryd.sizeOf23 (vs := [_, _, _, _]) rfl (fun _ hs => cells_nth (hs.at (i := 2) rfl) ⟨rfl, ⟨rfl, ⟨rfl, ⟨rfl, trivial⟩⟩⟩⟩)) ?_
  refine RunK.grows [32, 33] rfl rfl rfl rfl rfl rfl (Grows.call (vs := #[_]) rfl rfl Tryd.call11 (fun w hs => gl_Sign p w)) ?_
  refine RunK.still [32] rfl rfl rfl rfl rfl rfl (Still.loads rfl rfl Tryd.isAgg23 Tryd.sizeOf23 (vs := [_, _, _, _]) rfl (fun _ hs => cells_nth (hs.at (i := 2) rfl) ⟨rfl, ⟨rfl, ⟨rfl, ⟨rfl, trivial⟩⟩⟩⟩)) ?_
  refine RunK.grows [32, 34, 35] rfl rfl rfl rfl rfl rfl (Grows.call (vs := #[_]) rfl rfl Tryd.call12 (fun w hs => rf_Sign p w)) ?_
  refine RunK.still [32, 34, 36] rfl rfl rfl rfl rfl rfl (Still.neq rfl rfl rfl) ?_
  refine RunK.again (t := 37) (u := .bool false) (congrArg Value.bool (by simp)) ?_
  refine RunK.still [32, 37] rfl rfl rfl rfl rfl rfl (Still.pickF rfl rfl rfl) ?_
  refine RunK.done (by kernel_rfl) rfl ?_
  refine Ends.then ?_
  refine RunC.cond_false rfl ?_
  refine RunC.skip ?_
  refine Ends.then ?_
  refine RunC.seq ?_
  refine RunC.seq ?_
  refine RunC.region ?_
  refine RunL.still rfl rfl rfl (Still.loads rfl rfl Tryd.isAgg23 Tryd.sizeOf23 (vs := [_, _, _, _]) rfl (fun _ hs => cells_nth (hs.at (i := 2) rfl) ⟨rfl, ⟨rfl, ⟨rfl, ⟨rfl, trivial⟩⟩⟩⟩)) ?_
  refine RunL.grows rfl rfl rfl (Grows.call (vs := #[_]) rfl rfl Tryd.call6 (fun w hs => rf_Valid p w)) (fun _ _ => ?_)
  refine RunL.still rfl rfl rfl (Still.not rfl rfl) ?_
  refine RunL.still rfl rfl rfl (Still.move rfl rfl) ?_
  refine RunL.split (t := 42) rfl (fun h42 => ?_) (fun h42 => ?_)
  · skip
    refine RunL.off rfl rfl rfl ?_
    refine RunL.off rfl rfl rfl ?_
    refine RunL.off rfl rfl rfl ?_
    refine RunL.still rfl rfl rfl (Still.pickT rfl rfl rfl) ?_
    refine RunL.still rfl rfl rfl (Still.move rfl rfl) ?_
    refine RunL.off rfl rfl rfl ?_
    refine RunL.off rfl rfl rfl ?_
    refine RunL.off rfl rfl rfl ?_
    refine RunL.still rfl rfl rfl (Still.pickT rfl rfl rfl) ?_
    refine RunL.nil ?_
    refine Ends.then ?_
    refine RunC.cond_true rfl ?_
    refine RunC.seq ?_
    refine RunC.region ?_
    refine RunL.still rfl rfl rfl (Still.assign rfl rfl) ?_
    refine RunL.nil ?_
    refine Ends.then ?_
    refine RunC.ret ?_
    refine Ends.then_ret ?_
    refine Ends.leave (.inl rfl) (fun _ _ ok => results1 Tryd.results3 (Holds.tmp rfl) ok) (fun w1 hs => ?_)
    exact Ret.intro () trivial rfl (HSub.nil _) hs
  · have h42 : okP p = true := by simpa using h42
    refine RunL.still rfl rfl rfl (Still.loads rfl rfl Tryd.isAgg23 Tryd.sizeOf23 (vs := [_, _, _, _]) rfl (fun _ hs => cells_nth (hs.at (i := 1) rfl) ⟨rfl, ⟨rfl, ⟨rfl, ⟨rfl, trivial⟩⟩⟩⟩)) ?_
    refine RunL.grows rfl rfl rfl (Grows.call (vs := #[_]) rfl rfl Tryd.call6 (fun w hs => rf_Valid q w)) (fun _ _ => ?_)
    refine RunL.still rfl rfl rfl (Still.not rfl rfl) ?_
    refine RunL.still rfl rfl rfl (Still.pickF rfl rfl rfl) ?_
    refine RunL.still rfl rfl rfl (Still.move rfl rfl) ?_
    refine RunL.split (t := 47) rfl (fun h47 => ?_) (fun h47 => ?_)
    · skip
      refine RunL.off rfl rfl rfl ?_
      refine RunL.off rfl rfl rfl ?_
      refine RunL.off rfl rfl rfl ?_
      refine RunL.still rfl rfl rfl (Still.pickT rfl rfl rfl) ?_
      refine RunL.nil ?_
      refine Ends.then ?_
      refine RunC.cond_true rfl ?_
      refine RunC.seq ?_
      refine RunC.region ?_
      refine RunL.still rfl rfl rfl (Still.assign rfl rfl) ?_
      refine RunL.nil ?_
      refine Ends.then ?_
      refine RunC.ret ?_
      refine Ends.then_ret ?_
      refine Ends.leave (.inl rfl) (fun _ _ ok => results1 Tryd.results3 (Holds.tmp rfl) ok) (fun w2 hs => ?_)
      exact Ret.intro () trivial rfl (HSub.nil _) hs
    · have h47 : okP q = true := by simpa using h47
      refine RunL.still rfl rfl rfl (Still.loads rfl rfl Tryd.isAgg23 Tryd.sizeOf23 (vs := [_, _, _, _]) rfl (fun _ hs => cells_nth (hs.at (i := 0) rfl) ⟨rfl, ⟨rfl, ⟨rfl, ⟨rfl, trivial⟩⟩⟩⟩)) ?_
      refine RunL.grows rfl rfl rfl (Grows.call (vs := #[_]) rfl rfl Tryd.call6 (fun w hs => rf_Valid r w)) (fun _ _ => ?_)
      refine RunL.still rfl rfl rfl (Still.not rfl rfl) ?_
      refine RunL.still rfl rfl rfl (Still.pickF rfl rfl rfl) ?_
      refine RunL.nil ?_
      refine Ends.then ?_
      refine RunC.cond rfl (fun h51 => ?_) (fun h51 => ?_)
      · skip
        refine RunC.seq ?_
        refine RunC.region ?_
        refine RunL.still rfl rfl rfl (Still.assign rfl rfl) ?_
        refine RunL.nil ?_
        refine Ends.then ?_
        refine RunC.ret ?_
        refine Ends.then_ret ?_
        refine Ends.leave (.inl rfl) (fun _ _ ok => results1 Tryd.results3 (Holds.tmp rfl) ok) (fun w3 hs => ?_)
        exact Ret.intro () trivial rfl (HSub.nil _) hs
      · have h51 : okP r = true := by simpa using h51
        refine RunC.skip ?_
        refine Ends.then ?_
        refine RunC.seq ?_
        refine RunC.anyK (by kernel_rfl) ?_
        refine RunK.still [] rfl rfl rfl rfl rfl rfl (Still.loads rfl rfl Tryd.isAgg23 Tryd.sizeOf23 (vs := [_, _, _, _]) rfl (fun _ hs => cells_nth (hs.at (i := 2) rfl) ⟨rfl, ⟨rfl, ⟨rfl, ⟨rfl, trivial⟩⟩⟩⟩)) ?_
        refine RunK.still [] rfl rfl rfl rfl rfl rfl (Still.loads rfl rfl Tryd.isAgg23 Tryd.sizeOf23 (vs := [_, _, _, _]) rfl (fun _ hs => cells_nth (hs.at (i := 1) rfl) ⟨rfl, ⟨rfl, ⟨rfl, ⟨rfl, trivial⟩⟩⟩⟩)) ?_
        refine RunK.grows [52, 53] rfl rfl rfl rfl rfl rfl (Grows.call (vs := #[_, _]) rfl rfl Tryd.call7 (fun w hs => gl_Compose p q w)) ?_
        refine RunK.still [] rfl rfl rfl rfl rfl rfl (Still.loads rfl rfl Tryd.isAgg23 Tryd.sizeOf23 (vs := [_, _, _, _]) rfl (fun _ hs => cells_nth (hs.at (i := 0) rfl) ⟨rfl, ⟨rfl, ⟨rfl, ⟨rfl, trivial⟩⟩⟩⟩)) ?_
        refine RunK.grows [54, 55] rfl rfl rfl rfl rfl rfl (Grows.call (vs := #[_, _]) rfl rfl Tryd.call7 (fun w hs => gl_Compose (compR p q) r w)) ?_
        refine RunK.still [] rfl rfl rfl rfl rfl rfl (Still.loads rfl rfl Tryd.isAgg23 Tryd.sizeOf23 (vs := [_, _, _, _]) rfl (fun _ hs => cells_nth (hs.at (i := 2) rfl) ⟨rfl, ⟨rfl, ⟨rfl, ⟨rfl, trivial⟩⟩⟩⟩)) ?_
        refine RunK.still [] rfl rfl rfl rfl rfl rfl (Still.loads rfl rfl Tryd.isAgg23 Tryd.sizeOf23 (vs := [_, _, _, _]) rfl (fun _ hs => cells_nth (hs.at (i := 1) rfl) ⟨rfl, ⟨rfl, ⟨rfl, ⟨rfl, trivial⟩⟩⟩⟩)) ?_
        refine RunK.still [] rfl rfl rfl rfl rfl rfl (Still.loads rfl rfl Tryd.isAgg23 Tryd.sizeOf23 (vs := [_, _, _, _]) rfl (fun _ hs => cells_nth (hs.at (i := 0) rfl) ⟨rfl, ⟨rfl, ⟨rfl, ⟨rfl, trivial⟩⟩⟩⟩)) ?_
        refine RunK.grows [56, 58, 59] rfl rfl rfl rfl rfl rfl (Grows.call (vs := #[_, _]) rfl rfl Tryd.call7 (fun w hs => gl_Compose q r w)) ?_
        refine RunK.grows [57, 60] rfl rfl rfl rfl rfl rfl (Grows.call (vs := #[_, _]) rfl rfl Tryd.call7 (fun w hs => gl_Compose p (compR q r) w)) ?_
        refine RunK.still [56, 61] rfl rfl rfl rfl rfl rfl (Still.eqlAgg rfl rfl rfl Tryd.eqGuardType23 (fun _ => eqP _ _ _ _ _ _ _ _ _ _)) ?_
        refine RunK.again (t := 62) (u := .bool true) (congrArg Value.bool (decide_eq_true (by rw [cR_assoc h42 h47 h51]; exact ⟨rfl, rfl, rfl, rfl⟩))) ?_
        refine RunK.still [61, 62] rfl rfl rfl rfl rfl rfl (Still.move rfl rfl) ?_
        refine RunK.still [63] rfl rfl rfl rfl rfl rfl (Still.loads rfl rfl Tryd.isAgg23 Tryd.sizeOf23 (vs := [_, _, _, _]) rfl (fun _ hs => cells_nth (hs.at (i := 2) rfl) ⟨rfl, ⟨rfl, ⟨rfl, ⟨rfl, trivial⟩⟩⟩⟩)) ?_
        refine RunK.still [63] rfl rfl rfl rfl rfl rfl (Still.loads rfl rfl Tryd.isAgg23 Tryd.sizeOf23 (vs := [_, _, _, _]) rfl (fun _ hs => cells_nth (hs.at (i := 2) rfl) ⟨rfl, ⟨rfl, ⟨rfl, ⟨rfl, trivial⟩⟩⟩⟩)) ?_
        refine RunK.grows [63, 65] rfl rfl rfl rfl rfl rfl (Grows.call (vs := #[_]) rfl rfl Tryd.call9 (fun w hs => gl_Inverse p w)) ?_
        refine RunK.grows [63, 64, 66] rfl rfl rfl rfl rfl rfl (Grows.call (vs := #[_, _]) rfl rfl Tryd.call7 (fun w hs => gl_Compose p (invR p) w)) ?_
        refine RunK.grows [63, 67] rfl rfl rfl rfl rfl rfl (Grows.call (vs := #[]) rfl rfl Tryd.call13 (fun w hs => rf_Identity w)) ?_
        refine RunK.still [63, 67, 68] rfl rfl rfl rfl rfl rfl (Still.eqlAgg rfl rfl rfl Tryd.eqGuardType23 (fun _ => eqP _ _ _ _ _ _ _ _ _ _)) ?_
        refine RunK.again (t := 69) (u := .bool true) (congrArg Value.bool (decide_eq_true (by rw [cR_inv h42]; exact ⟨rfl, rfl, rfl, rfl⟩))) ?_
        refine RunK.still [63, 69] rfl rfl rfl rfl rfl rfl (Still.pickT rfl rfl rfl) ?_
        refine RunK.still [68, 70] rfl rfl rfl rfl rfl rfl (Still.move rfl rfl) ?_
        refine RunK.still [71] rfl rfl rfl rfl rfl rfl (Still.loads rfl rfl Tryd.isAgg23 Tryd.sizeOf23 (vs := [_, _, _, _]) rfl (fun _ hs => cells_nth (hs.at (i := 2) rfl) ⟨rfl, ⟨rfl, ⟨rfl, ⟨rfl, trivial⟩⟩⟩⟩)) ?_
        refine RunK.still [71] rfl rfl rfl rfl rfl rfl (Still.loads rfl rfl Tryd.isAgg23 Tryd.sizeOf23 (vs := [_, _, _, _]) rfl (fun _ hs => cells_nth (hs.at (i := 1) rfl) ⟨rfl, ⟨rfl, ⟨rfl, ⟨rfl, trivial⟩⟩⟩⟩)) ?_
        refine RunK.grows [71, 72, 73] rfl rfl rfl rfl rfl rfl (Grows.call (vs := #[_, _]) rfl rfl Tryd.call7 (fun w hs => gl_Compose p q w)) ?_
        refine RunK.grows [71, 74] rfl rfl rfl rfl rfl rfl (Grows.call (vs := #[_]) rfl rfl Tryd.call11 (fun w hs => gl_Sign (compR p q) w)) ?_
        refine RunK.still [71] rfl rfl rfl rfl rfl rfl (Still.loads rfl rfl Tryd.isAgg23 Tryd.sizeOf23 (vs := [_, _, _, _]) rfl (fun _ hs => cells_nth (hs.at (i := 2) rfl) ⟨rfl, ⟨rfl, ⟨rfl, ⟨rfl, trivial⟩⟩⟩⟩)) ?_
        refine RunK.grows [71, 75, 76] rfl rfl rfl rfl rfl rfl (Grows.call (vs := #[_]) rfl rfl Tryd.call11 (fun w hs => gl_Sign p w)) ?_
        refine RunK.still [71] rfl rfl rfl rfl rfl rfl (Still.loads rfl rfl Tryd.isAgg23 Tryd.sizeOf23 (vs := [_, _, _, _]) rfl (fun _ hs => cells_nth (hs.at (i := 1) rfl) ⟨rfl, ⟨rfl, ⟨rfl, ⟨rfl, trivial⟩⟩⟩⟩)) ?_
        refine RunK.grows [71, 77, 78] rfl rfl rfl rfl rfl rfl (Grows.call (vs := #[_]) rfl rfl Tryd.call11 (fun w hs => gl_Sign q w)) ?_
        refine RunK.still [71, 77, 79] rfl rfl rfl rfl rfl rfl (Still.mul rfl rfl rfl (fits64 (by have := sR_mul p q; omega) (by have := sR_mul p q; omega))) ?_
        refine RunK.still [71, 75, 80] rfl rfl rfl rfl rfl rfl (Still.eql rfl rfl rfl) ?_
        refine RunK.again (t := 81) (u := .bool true) (congrArg Value.bool (decide_eq_true (sR_comp h42 h47))) ?_
        refine RunK.still [71, 81] rfl rfl rfl rfl rfl rfl (Still.pickT rfl rfl rfl) ?_
        refine RunK.still [52, 53, 54, 55, 56, 57, 58, 59, 60, 61, 62, 63, 64, 65, 66, 67, 68, 69, 70, 71, 72, 73, 74, 75, 76, 77, 78, 79, 80, 81, 82] rfl rfl rfl rfl rfl rfl (Still.assign rfl rfl) ?_
        refine RunK.done (by kernel_rfl) rfl ?_
        refine Ends.then ?_
        refine RunC.ret ?_
        refine Ends.leave (.inl rfl) (fun _ _ ok => results1 Tryd.results3 (Holds.tmp rfl) ok) (fun w4 hs => ?_)
        exact Ret.intro () trivial rfl (HSub.nil _) hs

end Go.Proofs
/- GluePerms: for all arrays, valid or not, the statement's function returns true and changes nothing. No condition. -/
namespace Go.Proofs.YtbnfcbmpgjmhmaaDoor
open Go Go.V Go.ChangeShapes Go.WideShapes Go.ChangeAt Go.WideElems Go.RowKit
theorem own : ownKnob Tryd.prog.godebug = none := by kernel_rfl
theorem laidOut : laidOutB Tryd.prog = true := by kernel_rfl
set_option maxRecDepth 100000 in
theorem door_met (os : Os) (args : Array Value) : laidMetH Tryd.prog laidT ((World.laidAll Tryd.prog os laidT).forCall (fun _ _ => 0) ⟨#[], args, []⟩).memory := by
  rw [MakeChecks.laidMetH_plain _ _ _ laidT_plain]
  exact laidMet_laidAll _ (by kernel_rfl) (by kernel_rfl)
set_option maxRecDepth 100000 in
theorem lifted (os : Os) (started : os.Started) (H : Type) (enc : TypeId × Value → H) :
    ReturnsInHanded {} Tryd.checked os 3 .any (fun w args => (Rows.gluePermsSpec.pre enc Tryd.prog Tryd.f3 [] false w args ∧ laidMetH Tryd.prog laidT w) ∧ sizedMet enc Tryd.prog Tryd.f3 (OpenSpec.ofChange Rows.gluePermsSpec) false w args)
      (Rows.gluePermsSpec.post enc Tryd.prog Tryd.f3 false true false false) := by
  refine wrap_and_shaped (C := Tryd.checked) (X := fun w _ => laidMetH Tryd.prog laidT w) (fun _ _ _ hh h => h.of_heap hh) own started (by kernel_rfl) Tryd.func3
    (ChangeSpec.witness_shaped (enc := enc) (C := Tryd.checked) (os := os) (X := fun w _ => laidMetH Tryd.prog laidT w) false (World.laidAll Tryd.prog os laidT) #[.agg #[.int .i64 0, .int .i64 0, .int .i64 0, .int .i64 0], .agg #[.int .i64 0, .int .i64 0, .int .i64 0, .int .i64 0], .agg #[.int .i64 0, .int .i64 0, .int .i64 0, .int .i64 0]] 8 (World.laidAll_os _ _ _) (World.shaped_of_ZipB (by kernel_rfl) (by kernel_rfl)) (by kernel_rfl) (by kernel_rfl) (by kernel_rfl) (door_met os _)) ?_
  intro W base args ds gs before hval0 hW hL hSh
  have hE : Env W := env_of_laid hL hSh
  have hval : ∀ (j : Nat) t v, Tryd.f3.params[j]? = some t → args[j]? = some v → Value.okWide Tryd.prog W .any base t v := hval0
  have hW' := hW
  have hlt := hW.lt
  obtain ⟨p, q, hA0, hV, rfl, hfz, hnd⟩ := hW
  have hA : DataW.TrodAll enc Tryd.prog W 0 (fun _ => true) true Tryd.f3.params.toList args.toList ds p := hA0
  rw [Tryd.params3] at hA hval
  obtain ⟨v0, v1, v2, d0, d1, d2, p0, p1, p2, rfl, rfl, rfl, h0, h1, h2⟩ := trodAll_three hA
  obtain ⟨rfl, rfl⟩ := trodVars_none hV
  obtain ⟨x0, rfl⟩ := open_perm (hval 0 23 v0 rfl rfl) h0
  obtain ⟨x1, rfl⟩ := open_perm (hval 1 23 v1 rfl rfl) h1
  obtain ⟨x2, rfl⟩ := open_perm (hval 2 23 v2 rfl rfl) h2
  refine (lw_GluePerms x0 x1 x2 W hE ).mono fun e W' hR => ?_
  obtain ⟨_, _, rfl, hs⟩ := hR
  have hb : RowKit.Below W.heap.size W W' := hs.old.below
  refine ⟨_, rfl, _, _, _, [], p0 ++ p1 ++ p2, [], hW', trodAll_mk1 (shut_bool Tryd.underlying4 _), ?_, rfl, hb.frame _, fun h => by cases h⟩
  have k0 := Below.trod laidOut (by kernel_rfl) (of_decide_eq_true (by kernel_rfl)) h0 hb (fun x hx => hlt x (by simp [hx]))
  have k1 := Below.trod laidOut (by kernel_rfl) (of_decide_eq_true (by kernel_rfl)) h1 hb (fun x hx => hlt x (by simp [hx]))
  have k2 := Below.trod laidOut (by kernel_rfl) (of_decide_eq_true (by kernel_rfl)) h2 hb (fun x hx => hlt x (by simp [hx]))
  have kk := trodAll_mk3 k0 k1 k2
  simp only [← List.append_assoc] at kk
  exact kk
theorem gluePerms_holds : Rows.GluePermsSaid :=
  OpenClaim.holds_of_wide 3 Tryd.f3 rfl rfl rfl rfl rfl rfl rfl ⟨rfl, rfl, rfl, rfl, rfl⟩ rfl rfl rfl rfl rfl (by kernel_rfl) Tryd.func3 (by kernel_rfl)
    (of_decide_eq_true (by kernel_rfl)) (by unfold Func.isWrapper; first | (rw [if_pos (by decide +kernel)]; kernel_rfl) | (rw [if_neg (by decide +kernel)]; exact ⟨rfl, rfl⟩))
    (fun os started H enc _ => lifted os started H enc)
end Go.Proofs.YtbnfcbmpgjmhmaaDoor
