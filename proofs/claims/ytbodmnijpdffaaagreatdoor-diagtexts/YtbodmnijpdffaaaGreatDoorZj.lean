/- What the rows say of the library's variables; a wrap that keeps the world's shape. -/
import Derived.Test.YtbodmnijpdffaaaGreatDoorZc
import Derived.Test.YtbodmnijpdffaaaGreatDoorRows
import Derived.Stop.LaidErr
import Derived.Stop.Joined
import Derived.LaidMore
import Derived.Lib.LaidTab
import Derived.MakeChecks
import Derived.Shelf.Vars
import Derived.ChangeMaps5
import Derived.HandedShaped
import Derived.Test.YtbodmnijpdffaaaGreatDoorDg
import Derived.Test.YtbodmnijpdffaaaGreatDoorProg
import Derived.KernelRfl
import Derived.ProofKit
import Derived.OpenShut
import Derived.Test.YtbodmnijpdffaaaGreatDoorZe
import Derived.Carry
import Derived.Lay
namespace Go.Proofs
open Go Go.V Go.ChangeShapes Go.WideShapes
set_option maxRecDepth 100000
theorem z_gES : Tryz.prog.globalNamed "strconv.ErrSyntax" = some 2 := by kernel_rfl
theorem z_gER : Tryz.prog.globalNamed "strconv.ErrRange" = some 3 := by kernel_rfl
theorem z_gPT : Tryz.prog.globalNamed "internal/strconv.uint64pow10" = some 1 := by kernel_rfl
theorem z_gEST : (Tryz.prog.globals[2]?).map (·.type) = some 120 := by kernel_rfl
theorem z_gERT : (Tryz.prog.globals[3]?).map (·.type) = some 120 := by kernel_rfl
theorem z_gPTT : (Tryz.prog.globals[1]?).map (·.type) = some 212 := by kernel_rfl
theorem z_star : "*" ++ "errors.errorString" = "*errors.errorString" := by decide
theorem z_row (u : TypeId) (h : Tryz.prog.typeName? 3 u = some "*errors.errorString") : u = 236 :=
  typeName_ptr_named (nm := "errors.errorString") (by rw [z_star]; kernel_rfl) (by kernel_rfl) (by decide) u (by rw [z_star]; exact h)
theorem z_c238 : Tryz.prog.cellsOf 238 = 1 := by kernel_rfl
theorem z_c9 : Tryz.prog.cellsOf 9 = 1 := by kernel_rfl
theorem z_c180 : Tryz.prog.cellsOf 180 = 1 := by kernel_rfl
theorem z_c212 : Tryz.prog.cellsOf 212 = 20 := by kernel_rfl
abbrev laidT : List (String × DataW Unit) := YtbodmnijpdffaaaGreatDoor.Rows.diagTextsRow.laid
theorem laidT_plain : (laidT.all fun x => x.2.handleName?.isNone) = true := by kernel_rfl
theorem env_of_laid {W : World} (h : laidMetH Tryz.prog laidT W) (hsh : W.ShapedOpen Tryz.prog) : Env W := by
  rw [MakeChecks.laidMetH_plain _ _ _ laidT_plain] at h
  have h2 := h.tail.tail
  have h5 := h2.tail.tail.tail
  have h4 := h2.tail.tail
  have tab : Lib.TabIs Tryz.prog W "internal/strconv.uint64pow10" .u64 Lib.pow10Tab := Lib.tabIs_of_head z_gPT z_gPTT Tryz.underlying212 Tryz.underlying180 z_c180 z_c212 h2
  obtain ⟨a0, s0, e0, -, -, -⟩ := laid_sentinel h5 z_gES z_gEST Tryz.underlying120 z_row Tryz.underlying236 Tryz.underlying238 rfl rfl Tryz.underlying9 z_c238 z_c9
  obtain ⟨a1, s1, e1, -, -, -⟩ := laid_sentinel h4 z_gER z_gERT Tryz.underlying120 z_row Tryz.underlying236 Tryz.underlying238 rfl rfl Tryz.underlying9 z_c238 z_c9
  refine ⟨tab, ?_, ⟨_, _, e0⟩, ⟨_, _, e1⟩⟩
  exact cell_of_shapedOpen_int (zero := #[.int .i64 0]) (t := 3) hsh (of_decide_eq_true (by kernel_rfl)) (by kernel_rfl) rfl (by kernel_rfl) (by kernel_rfl) Tryz.underlying3
section
variable {H : Type} {enc : TypeId × Value → H}
/-- The wrap with a condition on the world, the world's shape kept. -/
theorem wrap_and_shaped {a : Assume} {C : Checked} {os : Os} {f : FuncId} {fn : Func} {s : ChangeSpec} {conds : List PathCond} {apart fresh handsOn again : Bool} {X : World → Array Value → Prop}
    (hX : ∀ (w w' : World) (args : Array Value), w.heap = w'.heap → X w args → X w' args)
    (own : ownKnob C.prog.godebug = none) (started : os.Started) (noInit : C.prog.inits.idxOf? f = none) (hfn : C.prog.funcs[f]? = some fn)
    (witness : ∃ (w : World) (tape : Tape) (i : Input), w.os = os ∧ (w.forCall tape i).Shaped C.prog ∧ i.vars = [] ∧ Input.okWide C.prog (w.forCall tape i) .any w.heap.size f i ∧
      ((s.pre enc C.prog fn conds apart (w.forCall tape i).memory i.args ∧ X (w.forCall tape i).memory i.args) ∧ sizedMet enc C.prog fn (OpenSpec.ofChange s) apart (w.forCall tape i).memory i.args) ∧ a.holds C.prog (lone (Frame.enter C.prog f i.args .normal) [] (w.forCall tape i)))
    (contract : ∀ (W : World) (base : Nat) (args : Array Value) (ds gs : List (DataW H)) (before : List MemPlace),
      (∀ (j : Nat) t v, fn.params[j]? = some t → args[j]? = some v → Value.okWide C.prog W .any base t v) →
      DataW.Whole enc C.prog fn.params.toList s.vars apart W args.toList ds gs before →
      X W args → W.ShapedOpen C.prog →
      Calls C.prog f args W fun e W' => ∃ v, e = .returned v ∧ s.post enc C.prog fn apart fresh handsOn again W args v W') :
    ReturnsInHanded a C os f .any (fun w args => (s.pre enc C.prog fn conds apart w args ∧ X w args) ∧ sizedMet enc C.prog fn (OpenSpec.ofChange s) apart w args) (s.post enc C.prog fn apart fresh handsOn again) := by
  refine returnsInHanded_of_calls own started noInit witness ?_
  intro w tape i _ hsh _ hok hpre hholds
  obtain ⟨_, _, _, fn', hfn', _, _, _, _, hval⟩ := hok
  have e : fn' = fn := Option.some.inj (hfn'.symm.trans hfn)
  subst e
  obtain ⟨⟨⟨ds, gs, before, hw, hc⟩, hx⟩, hz⟩ := hpre
  have hw' := DataW.Whole.of_heap (w' := w.forCall tape i) (by rfl) hw
  refine (contract (w.forCall tape i) w.heap.size i.args ds gs before hval hw' (hX _ _ _ (by rfl) hx) hsh).mono fun e W' ⟨v, he, hp⟩ => ?_
  subst he
  exact ChangeSpec.post_blind hp
end
end Go.Proofs
/- A diagram as an argument: opened. -/
namespace Go.Proofs
open Go Go.V Go.ChangeShapes Go.WideShapes
set_option maxRecDepth 20000
section
variable {H : Type} {enc : TypeId × Value → H} {w : World} {base : Nat} {sp : Nat → Bool} {held : Bool}
theorem in64_of_wf {n : Int} (h : (Lit.int .i64 n).wf = true) : In64 n := by
  simp [Lit.wf, IntKind.min, IntKind.max, IntKind.bits, IntKind.signed] at h
  exact ⟨by omega, by omega⟩
theorem some_of_len {α : Type} {xs : List α} {n i : Nat} (h : xs.length = n) (hi : i < n) : ∃ y, xs[i]? = some y := ⟨xs[i]'(by omega), by simp⟩
theorem open_int3 {n : Nat} {cs : List Value} {y : DataW H × List MemPlace} (h : DataW.trod enc Tryz.prog w base sp held n 3 cs = some y) : ∃ k : Int, cs = [iv k] ∧ In64 k := by
  obtain ⟨k, e, _, hw⟩ := DataW.trod_int Tryz.underlying3 h
  exact ⟨k, e, in64_of_wf hw⟩
theorem open_cr {n : Nat} {cs : List Value} {x : DataW H × List MemPlace} (h : DataW.trod enc Tryz.prog w base sp held n 62 cs = some x) : ∃ c : Cr, cs = encCr c ∧ c.Wf := by
  have c69 : Tryz.prog.cellsOf 62 = 5 := by kernel_rfl
  have c67 : Tryz.prog.cellsOf 60 = 4 := by kernel_rfl
  have c3 : Tryz.prog.cellsOf 3 = 1 := by kernel_rfl
  obtain ⟨xs, m, _, _, hl, hxl, hf⟩ := DataW.trod_struct Tryz.underlying62 h
  rw [c69] at hl
  match cs, hl with
  | [v0, v1, v2, v3, v4], _ =>
    have f0 : DataW.trod enc Tryz.prog w base sp held m 60 (([v0, v1, v2, v3, v4].drop 0).take (Tryz.prog.cellsOf 60)) = xs[0]? := hf 0 _ rfl
    have f1 : DataW.trod enc Tryz.prog w base sp held m 3 (([v0, v1, v2, v3, v4].drop 4).take (Tryz.prog.cellsOf 3)) = xs[1]? := hf 1 _ rfl
    obtain ⟨y0, e0⟩ := some_of_len hxl (i := 0) (by decide)
    obtain ⟨y1, e1⟩ := some_of_len hxl (i := 1) (by decide)
    rw [e0] at f0; rw [e1] at f1
    rw [c67] at f0
    rw [c3] at f1
    change DataW.trod enc Tryz.prog w base sp held m 60 [v0, v1, v2, v3] = some y0 at f0
    change DataW.trod enc Tryz.prog w base sp held m 3 [v4] = some y1 at f1
    obtain ⟨k4, g4, w4⟩ := open_int3 f1
    obtain ⟨zs, m2, _, _, _, hzl, hz⟩ := DataW.trod_array Tryz.underlying60 f0
    have z0 := hz 0 (by decide); have z1 := hz 1 (by decide); have z2 := hz 2 (by decide); have z3 := hz 3 (by decide)
    obtain ⟨u0, q0⟩ := some_of_len hzl (i := 0) (by decide)
    obtain ⟨u1, q1⟩ := some_of_len hzl (i := 1) (by decide)
    obtain ⟨u2, q2⟩ := some_of_len hzl (i := 2) (by decide)
    obtain ⟨u3, q3⟩ := some_of_len hzl (i := 3) (by decide)
    rw [q0] at z0; rw [q1] at z1; rw [q2] at z2; rw [q3] at z3
    rw [c3] at z0 z1 z2 z3
    change DataW.trod enc Tryz.prog w base sp held m2 3 [v0] = some u0 at z0
    change DataW.trod enc Tryz.prog w base sp held m2 3 [v1] = some u1 at z1
    change DataW.trod enc Tryz.prog w base sp held m2 3 [v2] = some u2 at z2
    change DataW.trod enc Tryz.prog w base sp held m2 3 [v3] = some u3 at z3
    obtain ⟨k0, g0, w0⟩ := open_int3 z0
    obtain ⟨k1, g1, w1⟩ := open_int3 z1
    obtain ⟨k2, g2, w2⟩ := open_int3 z2
    obtain ⟨k3, g3, w3⟩ := open_int3 z3
    simp at g0 g1 g2 g3 g4
    subst g0; subst g1; subst g2; subst g3; subst g4
    exact ⟨⟨k0, k1, k2, k3, k4⟩, rfl, ⟨w0, w1, w2, w3, w4⟩⟩
/-- The diagram that an argument is. -/
theorem open_dia {r : Reach} {b0 : Nat} {v : Value} {x : DataW H} {ps : List MemPlace} (hv : Value.okWide Tryz.prog w r b0 24 v) (h : DataW.Trod enc Tryz.prog w base sp held 24 v x ps) : ∃ bs A cap d, v = diaV bs cap d ∧ DiaAt w bs A d := by
  have c24 : Tryz.prog.cellsOf 24 = 2 := by kernel_rfl
  have c22 : Tryz.prog.cellsOf 22 = 1 := by kernel_rfl
  have c3 : Tryz.prog.cellsOf 3 = 1 := by kernel_rfl
  have c69 : Tryz.prog.cellsOf 62 = 5 := by kernel_rfl
  obtain ⟨cs, rfl, hsz⟩ := okWide_struct Tryz.underlying24 hv
  obtain ⟨l⟩ := cs
  obtain ⟨fuel, h⟩ := h
  change DataW.trod enc Tryz.prog w base sp held fuel 24 l = _ at h
  obtain ⟨xs, m, _, _, hl, hxl, hf⟩ := DataW.trod_struct Tryz.underlying24 h
  rw [c24] at hl
  match l, hl with
  | [v0, v1], _ =>
    have f0 : DataW.trod enc Tryz.prog w base sp held m 22 (([v0, v1].drop 0).take (Tryz.prog.cellsOf 22)) = xs[0]? := hf 0 _ rfl
    have f1 : DataW.trod enc Tryz.prog w base sp held m 3 (([v0, v1].drop 1).take (Tryz.prog.cellsOf 3)) = xs[1]? := hf 1 _ rfl
    obtain ⟨y0, e0⟩ := some_of_len hxl (i := 0) (by decide)
    obtain ⟨y1, e1⟩ := some_of_len hxl (i := 1) (by decide)
    rw [e0] at f0; rw [e1] at f1
    rw [c22] at f0
    rw [c3] at f1
    change DataW.trod enc Tryz.prog w base sp held m 22 [v0] = some y0 at f0
    change DataW.trod enc Tryz.prog w base sp held m 3 [v1] = some y1 at f1
    obtain ⟨k, g1, wk⟩ := open_int3 f1
    simp at g1
    subst g1
    rcases DataW.trod_slice Tryz.underlying22 f0 with ⟨e, _⟩ | ⟨a, len, cap, elems, rest, n, _, e, _, _, hlc, hcm, hel, hget, _⟩
    · simp at e
      subst e
      exact ⟨none, ⟨0, 0, none⟩, 0, ⟨[], k⟩, rfl, ⟨fun h => absurd h (Nat.lt_irrefl 0), fun i x hi => by simp at hi, Nat.zero_le _, fun x hx => (by cases hx), wk⟩⟩
    · simp at e
      subst e
      have hcr : ∀ i, i < len → ∃ c : Cr, c.Wf ∧ Cells w (a.add (i * 5)) (encCr c) := by
        intro i hi
        have hg := hget i hi
        obtain ⟨y, hy⟩ := some_of_len hel hi
        rw [hy, c69] at hg
        obtain ⟨cs', h1, h2⟩ := Option.bind_eq_some_iff.1 hg
        obtain ⟨c, rfl, hw⟩ := open_cr h2
        obtain ⟨_, hcl, hat⟩ := World.cells?_some h1
        exact ⟨c, hw, fun j u hj => by
          have hj5 : j < 5 := by have := (List.getElem?_eq_some_iff.1 hj).1; simpa [encCr] using this
          rw [hat j hj5, hj]⟩
      obtain ⟨f, hf2⟩ := Classical.axiomOfChoice (r := fun (i : Nat) (c : Cr) => i < len → c.Wf ∧ Cells w (a.add (i * 5)) (encCr c)) fun i => by
        by_cases hi : i < len
        · obtain ⟨c, hc⟩ := hcr i hi; exact ⟨c, fun _ => hc⟩
        · exact ⟨⟨0, 0, 0, 0, 0⟩, fun h => absurd h hi⟩
      have hll : ((List.range len).map f).length = len := by simp
      refine ⟨some a, a, cap, ⟨(List.range len).map f, k⟩, by simp [diaV], ⟨fun _ => rfl, fun i x hi => ?_, ?_, fun x hx => ?_, wk⟩⟩
      · have hil : i < len := by have := (List.getElem?_eq_some_iff.1 hi).1; simpa using this
        simp [hil] at hi
        subst hi
        exact (hf2 i hil).2
      · show ((List.range len).map f).length ≤ _
        rw [hll]; have : maxLen = 9223372036854775807 := rfl; omega
      · obtain ⟨i, hi, rfl⟩ := List.mem_map.1 hx
        exact (hf2 i (List.mem_range.1 hi)).1
end
end Go.Proofs
/- DiagTexts: for every two diagrams and every string, valid or not, the statement's function returns true and changes nothing. No condition. -/
namespace Go.Proofs.YtbodmnijpdffaaaGreatDoor
open Go Go.V Go.ChangeShapes Go.WideShapes Go.ChangeAt Go.WideElems Go.RowKit
theorem own : ownKnob Tryz.prog.godebug = none := by kernel_rfl
theorem laidOut : laidOutB Tryz.prog = true := by kernel_rfl
set_option maxRecDepth 100000 in
theorem door_met (os : Os) (args : Array Value) : laidMetH Tryz.prog laidT ((World.laidAll Tryz.prog os laidT).forCall (fun _ _ => 0) ⟨#[], args, []⟩).memory := by
  rw [MakeChecks.laidMetH_plain _ _ _ laidT_plain]
  exact laidMet_laidAll _ (by kernel_rfl) (by kernel_rfl)
set_option maxRecDepth 100000 in
theorem lifted (os : Os) (started : os.Started) (H : Type) (enc : TypeId × Value → H) :
    ReturnsInHanded {} Tryz.checked os 3 .any (fun w args => (Rows.diagTextsSpec.pre enc Tryz.prog Tryz.f3 [] false w args ∧ laidMetH Tryz.prog laidT w) ∧ sizedMet enc Tryz.prog Tryz.f3 (OpenSpec.ofChange Rows.diagTextsSpec) false w args)
      (Rows.diagTextsSpec.post enc Tryz.prog Tryz.f3 false true false false) := by
  refine wrap_and_shaped (C := Tryz.checked) (X := fun w _ => laidMetH Tryz.prog laidT w) (fun _ _ _ hh h => h.of_heap hh) own started (by kernel_rfl) Tryz.func3
    (ChangeSpec.witness_shaped (enc := enc) (C := Tryz.checked) (os := os) (X := fun w _ => laidMetH Tryz.prog laidT w) false (World.laidAll Tryz.prog os laidT) #[.agg #[.slice none 0 0, .int .i64 0], .agg #[.slice none 0 0, .int .i64 0], .string ⟨#[]⟩] 8 (World.laidAll_os _ _ _) (World.shaped_of_ZipB (by kernel_rfl) (by kernel_rfl)) (by kernel_rfl) (by kernel_rfl) (by kernel_rfl) (door_met os _)) ?_
  intro W base args ds gs before hval0 hW hL hSh
  have hE : Env W := env_of_laid hL hSh
  have hval : ∀ (j : Nat) t v, Tryz.f3.params[j]? = some t → args[j]? = some v → Value.okWide Tryz.prog W .any base t v := hval0
  have hW' := hW
  have hlt := hW.lt
  obtain ⟨p, q, hA0, hV, rfl, hfz, hnd⟩ := hW
  have hA : DataW.TrodAll enc Tryz.prog W 0 (fun _ => true) true Tryz.f3.params.toList args.toList ds p := hA0
  rw [Tryz.params3] at hA hval
  obtain ⟨v0, v1, v2, d0, d1, d2, p0, p1, p2, rfl, rfl, rfl, h0, h1, h2⟩ := trodAll_three hA
  obtain ⟨rfl, rfl⟩ := trodVars_none hV
  obtain ⟨bs0, A0, cap0, x0, rfl, m0⟩ := open_dia (hval 0 24 v0 rfl rfl) h0
  obtain ⟨bs1, A1, cap1, x1, rfl, m1⟩ := open_dia (hval 1 24 v1 rfl rfl) h1
  obtain ⟨x2, rfl, e2, _, _⟩ := ChangeMaps.open_string Tryz.underlying9 (hval 2 9 v2 rfl rfl) h2
  refine (lw_DiagTexts bs0 A0 cap0 x0 bs1 A1 cap1 x1 x2 W hE m0 m1).mono fun e W' hR => ?_
  obtain ⟨_, _, rfl, hs⟩ := hR
  have hb : RowKit.Below W.heap.size W W' := hs.old.below
  refine ⟨_, rfl, _, _, _, [], p0 ++ p1 ++ p2, [], hW', trodAll_mk1 (shut_bool Tryz.underlying4 _), ?_, rfl, hb.frame _, fun h => by cases h⟩
  have k0 := Below.trod laidOut (by kernel_rfl) (of_decide_eq_true (by kernel_rfl)) h0 hb (fun x hx => hlt x (by simp [hx]))
  have k1 := Below.trod laidOut (by kernel_rfl) (of_decide_eq_true (by kernel_rfl)) h1 hb (fun x hx => hlt x (by simp [hx]))
  have k2 := Below.trod laidOut (by kernel_rfl) (of_decide_eq_true (by kernel_rfl)) h2 hb (fun x hx => hlt x (by simp [hx]))
  have kk := trodAll_mk3 k0 k1 k2
  simp only [← List.append_assoc] at kk
  exact kk
theorem diagTexts_holds : Rows.DiagTextsSaid :=
  OpenClaim.holds_of_wide 3 Tryz.f3 rfl rfl rfl rfl rfl rfl rfl ⟨rfl, rfl, rfl, rfl, rfl⟩ rfl rfl rfl rfl rfl (by kernel_rfl) Tryz.func3 (by kernel_rfl)
    (of_decide_eq_true (by kernel_rfl)) (by unfold Func.isWrapper; first | (rw [if_pos (by decide +kernel)]; kernel_rfl) | (rw [if_neg (by decide +kernel)]; exact ⟨rfl, rfl⟩))
    (fun os started H enc _ => lifted os started H enc)
end Go.Proofs.YtbodmnijpdffaaaGreatDoor
