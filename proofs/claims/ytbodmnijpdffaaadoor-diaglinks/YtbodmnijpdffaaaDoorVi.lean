/- The proof layer, part i: ranges over a function. -/
import Derived.Test.YtbodmnijpdffaaaDoorVh
namespace Go.V
open Go
/-- Two heaplets as one. -/
theorem Sym.star {w0 w : World} {S : Nat → Prop} {h k : HL} {L : List HL} (hs : Sym w0 S (h :: k :: L) w) : Sym w0 S (HL.star h k :: L) w := by
  have hp := List.pairwise_cons.1 hs.apart
  have hp2 := List.pairwise_cons.1 hp.2
  refine ⟨hs.old, fun g hg => ?_, fun g hg b hb => ?_, List.pairwise_cons.2 ⟨fun g hg b hb hgb => ?_, hp2.2⟩⟩
  · rcases List.mem_cons.1 hg with rfl | hg
    · exact ⟨hs.holds _ (by simp), hs.holds _ (by simp), hp.1 k (by simp)⟩
    · exact hs.holds g (by simp [hg])
  · rcases List.mem_cons.1 hg with rfl | hg
    · rcases hb with hb | hb
      · exact hs.supp h (by simp) b hb
      · exact hs.supp k (by simp) b hb
    · exact hs.supp g (by simp [hg]) b hb
  · rcases hb with hb | hb
    · exact hp.1 g (by simp [hg]) b hb hgb
    · exact hp2.1 g hg b hb hgb
theorem Sym.unstar {w0 w : World} {S : Nat → Prop} {h k : HL} {L : List HL} (hs : Sym w0 S (HL.star h k :: L) w) : Sym w0 S (h :: k :: L) w := by
  have hp := List.pairwise_cons.1 hs.apart
  have hh : (HL.star h k).holds w := hs.holds _ (by simp)
  refine ⟨hs.old, fun g hg => ?_, fun g hg b hb => ?_, List.pairwise_cons.2 ⟨fun g hg b hb hgb => ?_, List.pairwise_cons.2 ⟨fun g hg b hb hgb => ?_, hp.2⟩⟩⟩
  · rcases List.mem_cons.1 hg with rfl | hg
    · exact hh.1
    · rcases List.mem_cons.1 hg with rfl | hg
      · exact hh.2.1
      · exact hs.holds g (by simp [hg])
  · rcases List.mem_cons.1 hg with rfl | hg
    · exact hs.supp (HL.star g k) (by simp) b (Or.inl hb)
    · rcases List.mem_cons.1 hg with rfl | hg
      · exact hs.supp (HL.star h g) (by simp) b (Or.inr hb)
      · exact hs.supp g (by simp [hg]) b hb
  · rcases List.mem_cons.1 hg with rfl | hg
    · exact hh.2.2 b hb hgb
    · exact hp.1 g hg b (.inl hb) hgb
  · exact hp.1 g hg b (.inr hb) hgb
theorem HSub.skip {L L' : List HL} {h : HL} (hs : HSub L L') : HSub L (h :: L') := let ⟨M, h1, h2⟩ := hs; ⟨M, h1, h2.cons h⟩
/-- A heaplet by itself, all of its blocks handed over. -/
theorem Sym.own1 {w : World} {h : HL} (hh : h.holds w) (hl : ∀ b, h.supp b → b < w.heap.size) : Sym w h.supp [h] w :=
  ⟨Old.refl _ w, fun g hg => by rw [List.mem_singleton.1 hg]; exact hh, fun g hg b hb => by rw [List.mem_singleton.1 hg] at hb; exact ⟨hl b hb, .inr hb⟩, List.pairwise_singleton _ _⟩
/-- What a call of yield does: one round; it goes on. -/
def Yields (P : Program) (l : Nat) (v : Value) (w : World) (S : Nat → Prop) {σ : Type} (H : σ → HL) : Prop :=
  ∃ r : Loop, w.heap[l]? = some (.loop r) ∧ r.params.size = 1 ∧ RoundIn (FW none) 0 P l r.fn ((r.params.zip #[v]).foldl (fun tmps (t, a) => tmps.setIfInBounds t a) r.tmps) r.assign r.body w fun e w' => e = .returned (.bool true) ∧ ∃ s, Sym w S [H s] w'
section yield
variable {C : Cx} {F : Fr} {L : List HL} {o : Oper}
theorem Does.yield {x y : Operand} {ts : Array TypeId} {i l : Nat} {v : Value} {h : HL} {σ : Type} {H : σ → HL} (ho : o.op = .call { callee := .value x, args := #[y], argTypes := ts }) (hr : C.r = none) (hx : F.ev x = some (.func (.yield l) #[] #[])) (hy : F.ev y = some v) (hi : L[i]? = some h)
    (hyi : ∀ w, h.holds w → (∀ b, h.supp b → b < w.heap.size) → Yields C.P l v w h.supp H) : Does C o F L (fun _ : σ => True) (fun _ => .bool true) (fun s => L.set i (H s)) := fun a w ok next Q hn => by
  refine ⟨fun _ _ => trivial, ?_⟩
  rw [Oper.semAt_eq _ _ _ (fun c h => by rw [ho] at h; cases h)]
  obtain ⟨r, hl, hp, hround⟩ := hyi w (ok.sym.at hi) (fun b hb => (ok.sym.supp _ (List.mem_of_getElem? hi) b hb).1)
  have hyr := run_yield (P := C.P) (args := #[v]) hl (by simp [hp])
  have hrun : (execOp a.eval o).run C.P w = .ok (.round l r.fn ((r.params.zip #[v]).foldl (fun tmps (t, a) => tmps.setIfInBounds t a) r.tmps) r.assign r.body) w := by
    simp only [execOp, ho, resolve, ok.fr.ev hx]
    simp [Deferred.ofValue, invoke, ok.fr.ev hy, hyr]
  rw [hrun, Oper.uponIn_round, hr]
  refine ⟨fun h => by simp [FW] at h, hround.mono ?_⟩
  rintro e w' ⟨rfl, s, hs⟩
  refine hn s w' trivial (ok.sym.turn hi (fun b hb => ?_) hs.old (hs.holds _ (by simp)))
  have := hs.supp (H s) (by simp) b hb
  exact ⟨this.2.symm, this.1⟩
end yield
/-! ### A round -/
/-- What the body of a round must come to. -/
def RoundEnd (C : Cx) (l : Nat) (rb : Loop) {σ : Type} (H : σ → HL) : Exit → Act → World → Prop
  | .normal, _, w => ∃ s, Sym C.w0 C.S [HL.obj l (.loop rb), H s] w
  | _, _, _ => False
/-- What the assignment ahead of a round's body must come to. -/
def RoundBegin (C : Cx) (l : Nat) (rc : Loop) (body : Code) {σ : Type} (H : σ → HL) : Exit → Act → World → Prop
  | .normal, a, w => ∃ F1 L1, Ok C F1 (HL.obj l (.loop rc) :: L1) a w ∧ RunC C body (RoundEnd C l { rc with state := .busy } H) F1 (HL.obj l (.loop { rc with state := .busy }) :: L1)
  | _, _, _ => False
theorem Ends.roundEnd {C : Cx} {l : Nat} {rb : Loop} {σ : Type} {H : σ → HL} {F : Fr} {L : List HL} (s : σ) (hL : HSub [HL.obj l (.loop rb), H s] L) : Ends C .normal (RoundEnd C l rb H) F L := fun _ _ ok => ⟨s, ok.sym.sub hL⟩
theorem Ends.roundBegin {C : Cx} {l : Nat} {rc : Loop} {body : Code} {σ : Type} {H : σ → HL} {F F1 : Fr} {L L1 : List HL} (hF : F1.Sub F) (hL : HSub (HL.obj l (.loop rc) :: L1) L) (h : RunC C body (RoundEnd C l { rc with state := .busy } H) F1 (HL.obj l (.loop { rc with state := .busy }) :: L1)) :
    Ends C .normal (RoundBegin C l rc body H) F L := fun _ _ ok => ⟨F1, L1, ok.sub hF hL, h⟩
theorem Old.putObj {S : Nat → Prop} (w : World) {l : Nat} (o : Obj) (hS : S l) : Old S w (w.putObj l o) :=
  ⟨rfl, rfl, rfl, by simp, fun k _ hk => World.putObj_heap_other (fun e => hk (e ▸ hS))⟩
theorem Sym.putObj {w0 w : World} {S : Nat → Prop} {L : List HL} {i l : Nat} {o o' : Obj} (hs : Sym w0 S L w) (hi : L[i]? = some (HL.obj l o)) : Sym w0 S (L.set i (HL.obj l o')) (w.putObj l o') :=
  hs.turn hi (fun b hb => ⟨.inl hb, by rw [World.putObj_size]; exact (hs.supp _ (List.mem_of_getElem? hi) b hb).1⟩) (Old.putObj w o' rfl) (World.putObj_heap_same (hs.lt hi))
theorem yields_of_run {P : Program} {l n p : Nat} {rc : Loop} {v : Value} {w : World} {F : Fr} {K : HL} {σ : Type} {H : σ → HL} (hst : rc.state = .ready) (hpe : rc.pending = none) (hps : rc.params = #[p]) (hp : p < n) (hfr : At n [] F { tmps := rc.tmps, defers := [] })
    (hK : (HL.star (HL.obj l (.loop rc)) K).holds w) (hlt : ∀ b, (HL.star (HL.obj l (.loop rc)) K).supp b → b < w.heap.size)
    (h : RunC ⟨P, some l, n, [], w, (HL.star (HL.obj l (.loop rc)) K).supp⟩ rc.assign (RoundBegin ⟨P, some l, n, [], w, (HL.star (HL.obj l (.loop rc)) K).supp⟩ l rc rc.body H) ((p, v) :: F) [HL.obj l (.loop rc), K]) :
    Yields P l v w (HL.star (HL.obj l (.loop rc)) K).supp (fun s => HL.star (HL.obj l (.loop rc)) (H s)) := by
  refine ⟨rc, hK.1, by rw [hps]; rfl, ?_⟩
  have htm : (rc.params.zip #[v]).foldl (fun tmps (t, a) => tmps.setIfInBounds t a) rc.tmps = rc.tmps.setIfInBounds p v := by rw [hps]; simp
  rw [htm]
  refine roundIn_of_wpIn (F := FW none) trivial ?_
  refine wpIn_mono (h _ w ⟨?_, (Sym.own1 hK hlt).unstar⟩) ?_
  · exact hfr.put hp v
  · intro e a1 w1 hq
    cases e <;> try exact hq.elim
    obtain ⟨F1, L1, ok, hb⟩ := hq
    have hl1 := ok.sym.at (i := 0) rfl
    refine ⟨_, run_beginRound hl1 hst, ?_⟩
    refine wpIn_mono (hb a1 _ ⟨ok.fr, ?_⟩) ?_
    · exact ok.sym.putObj (i := 0) rfl
    · intro e a2 w2 hq
      cases e <;> try exact hq.elim
      obtain ⟨s, hq⟩ := hq
      have hq : Sym w (HL.star (HL.obj l (.loop rc)) K).supp [HL.obj l (.loop { rc with state := .busy }), H s] w2 := hq
      have hl2 := hq.at (i := 0) rfl
      refine ⟨_, _, run_endRound none hl2, rfl, s, ?_⟩
      have hre : { { rc with state := .busy } with state := if (none : Option Code).isNone then LoopState.ready else .done, pending := none } = rc := by
        cases rc; simp at hst hpe; subst hst; subst hpe; rfl
      rw [hre]
      exact (hq.putObj (i := 0) (o' := .loop rc) rfl).star
/-! ### The statement -/
def markD (D : Nat) : Deferred := { target := .collected D, args := #[] }
theorem RunC.rangeFunc {C : Cx} {F : Fr} {L R : List HL} {Q : Exit → Act → World → Prop} {g : Operand} {p : Nat} {assign body : Code} {gf N : Nat} {lb : Array Value} {V : Value} {σ : Type} (s0 : σ) (x : Nat → Value) (K : Nat → σ → HL) (hr : C.r = none) (hp : Nat.blt p C.n = true)
    (hg : F.ev g = some (.func (.func gf) #[] lb)) (hgf : ∀ args w, (callFunc gf args).run C.P w = .ok (.enter gf args) w) (hL : HSub (K 0 s0 :: R) L)
    (hround : ∀ (l : Nat) (rc : Loop) (j : Nat) (s : σ) (w : World) (S : Nat → Prop), j < N → rc.assign = assign → rc.body = body → RunC ⟨C.P, some l, C.n, [], w, S⟩ assign (RoundBegin ⟨C.P, some l, C.n, [], w, S⟩ l rc body (K (j + 1))) ((p, x j) :: F) [HL.obj l (.loop rc), K j s])
    (hcall : ∀ (l : Nat) (J : Nat → σ → HL) (w : World), Sym C.w0 C.S (J 0 s0 :: R) w → (∀ j s, j < N → ∀ w', (J j s).holds w' → (∀ b, (J j s).supp b → b < w'.heap.size) → Yields C.P l (x j) w' (J j s).supp (J (j + 1))) →
      Gives C.P gf (#[.func (.yield l) #[] #[]] ++ lb) w (J 0 s0).supp (fun _ : σ => True) (fun _ => V) (fun s => [J N s]))
    (hk : ∀ D s, Ends { C with D := markD D :: C.D } .normal Q F (K N s :: HL.obj D (.deferred (some [])) :: R)) : RunC C (.rangeFunc g #[p] assign body) Q F L := fun a w ok => by
  refine wpIn_rangeFunc fun fn _ => ?_
  rw [show (FW C.r).round = none by rw [hr]; rfl]
  let rc : Loop := { state := .ready, pending := none, fn, tmps := a.tmps, params := #[p], assign, body, defers := w.heap.size }
  let J : Nat → σ → HL := fun j s => HL.star (HL.obj (w.heap.size + 1) (.loop rc)) (K j s)
  let W1 := (w.alloc (.deferred (some []))).alloc (.loop rc)
  have hs1 : Sym C.w0 C.S (J 0 s0 :: HL.obj w.heap.size (.deferred (some [])) :: R) W1 := by
    have h1 := ((ok.sym.sub hL).alloc (.deferred (some []))).alloc (.loop rc)
    rw [World.size_alloc] at h1
    have hsb : HSub (HL.obj (w.heap.size + 1) (.loop rc) :: K 0 s0 :: HL.obj w.heap.size (.deferred (some [])) :: R) (HL.obj (w.heap.size + 1) (.loop rc) :: HL.obj w.heap.size (.deferred (some [])) :: K 0 s0 :: R) := HSub.pick 0 rfl (HSub.pick 1 rfl (HSub.pick 0 rfl (HSub.refl R)))
    exact (h1.sub hsb).star
  refine ⟨w.heap.size + 1, [markD w.heap.size], W1, { target := .fn (.func gf) lb, args := #[.func (.yield (w.heap.size + 1)) #[] #[]] }, W1, gf, #[.func (.yield (w.heap.size + 1)) #[] #[]] ++ lb, W1, run_enterLoop_outer _ _ _ _ _, ?_, fun _ _ => trivial, ?_, fun h => by simp [FW] at h, ?_⟩
  · simp only [resolve, ok.fr.ev hg]
    simp [go_sem]
  · simp [invoke, go_sem, hgf]
  · refine callsFW.2 ?_
    have hs1' : Sym C.w0 C.S (J 0 s0 :: R) W1 := hs1.sub (HSub.pick 0 rfl (HSub.skip (HSub.refl R)))
    refine Calls.mono (hcall (w.heap.size + 1) J W1 hs1' ?_) ?_
    · intro j s hj w' hh hlt
      refine yields_of_run (n := C.n) (p := p) rfl rfl rfl (Nat.le_of_ble_eq_true hp) ⟨ok.fr.size, rfl, ok.fr.slot⟩ hh hlt ?_
      exact hround _ _ j s w' _ hj rfl rfl
    · rintro e w3 ⟨s, _, rfl, hs3⟩
      have h3 := (Sym.handed (K := [J 0 s0]) (R := HL.obj w.heap.size (.deferred (some [])) :: R) hs1 (fun b hb _ => ⟨_, List.mem_singleton.2 rfl, hb⟩) hs3).unstar
      have hl3 := h3.at (i := 0) rfl
      refine ⟨none, _, run_endLoop hl3 (by simp [rc]), ?_⟩
      refine hk w.heap.size s _ _ ⟨⟨ok.fr.size, by show _ ++ a.defers = _ :: C.D; rw [ok.fr.defers]; rfl, ok.fr.slot⟩, ?_⟩
      exact (h3.putObj (i := 0) (o' := .loop { rc with state := .exhausted }) rfl).sub (HSub.skip (HSub.refl _))
/-! ### Leaving with marks -/
/-- The marks of the ranges that have run. -/
def HL.marks (Ds : List Nat) : HL := HL.all (Ds.map fun D => HL.obj D (.deferred (some [])))
theorem Sym.marks_nil {w0 w : World} {S : Nat → Prop} {L : List HL} (hs : Sym w0 S L w) : Sym w0 S (HL.marks [] :: L) w := hs.emp
theorem Sym.marks_push {w0 w : World} {S : Nat → Prop} {L : List HL} {D : Nat} {Ds : List Nat} (hs : Sym w0 S (HL.obj D (.deferred (some [])) :: HL.marks Ds :: L) w) : Sym w0 S (HL.marks (D :: Ds) :: L) w := hs.star
theorem leavesM {P : Program} {fn : Func} {tmps : Array Value} {R : Ending → World → Prop} {w0 : World} {S : Nat → Prop} {H : List HL} {v : Value} (hr : ∀ w, Sym w0 S H w → (results fn tmps).run P w = .ok v w) (hR : ∀ w, Sym w0 S H w → R (.returned v) w) :
    ∀ (Ds : List Nat) (w : World), Sym w0 S (HL.marks Ds :: H) w → LeavesInM (FW none) 0 P fn tmps R (Ds.map markD) .returning w
  | [], w, hs => by
    have h0 : Sym w0 S H w := hs.sub (HSub.skip (HSub.refl _))
    exact ⟨v, hr w h0, hR w h0⟩
  | D :: Ds, w, hs => by
    have h1 : Sym w0 S (HL.obj D (.deferred (some [])) :: HL.marks Ds :: H) w := Sym.unstar hs
    refine ⟨by simp, .inl ⟨D, _, rfl, run_takeDeferred (h1.at (i := 0) rfl), ?_⟩⟩
    exact leavesM hr hR Ds _ ((h1.putObj (i := 0) (o' := .deferred none) rfl).sub (HSub.skip (HSub.refl _)))
theorem Ends.leaveM {P : Program} {n : Nat} {w0 : World} {S : Nat → Prop} {fn : Func} {R : Ending → World → Prop} {F : Fr} {L H : List HL} {v : Value} {e : Exit} {Ds : List Nat} (he : e = .ret ∨ e = .normal) (hL : HSub (HL.marks Ds :: H) L)
    (hr : ∀ a w, Ok ⟨P, none, n, Ds.map markD, w0, S⟩ F H a w → (results fn a.tmps).run P w = .ok v w) (hR : ∀ w', Sym w0 S H w' → R (.returned v) w') : Ends ⟨P, none, n, Ds.map markD, w0, S⟩ e (bodyPostM (FW none) 0 P fn R) F L := fun a w ok => by
  have key : LeavesInM (FW none) 0 P fn a.tmps R a.defers .returning w := by
    rw [ok.fr.defers]
    exact leavesM (fun w' hs => hr a w' ⟨ok.fr, hs⟩) hR Ds w (ok.sym.sub hL)
  rcases he with rfl | rfl <;> exact key
theorem fn_of_runM {P : Program} {f : FuncId} {fn : Func} {c : Code} {args : List Value} {n : Nat} {w : World} {S : Nat → Prop} {L : List HL} {R : Ending → World → Prop}
    (hf : P.funcs[f]? = some fn) (hb : fn.body = some c) (hn : fn.ntmps = n) (hl : args.length ≤ n) (hs : Sym w S L w)
    (h : RunC ⟨P, none, n, [], w, S⟩ c (bodyPostM (FW none) 0 P fn R) (entry 0 args) L) : Calls P f args.toArray w R := by
  refine (callsFW (r := none) (n := 0)).1 (callsIn_of_wp_marks hf hb trivial ?_)
  refine h _ w ⟨⟨?_, rfl, fun t v ht => ?_⟩, hs⟩
  · simp [hn]; omega
  · obtain ⟨k, hk, hv⟩ := entry_get args 0 t v ht
    have : t = k := by omega
    subst this
    have hlt : t < args.length := (List.getElem?_eq_some_iff.1 hv).1
    simp [Array.getElem?_append, hlt]
    simpa [List.getElem?_eq_getElem hlt] using hv
/-! ### Loops in which marks are laid -/
def AgainD (C : Cx) {γ : Type} (I : γ → Prop) (μ : γ → Nat) (Dg : γ → List Nat) (Fi : γ → Fr) (Li : γ → List HL) (m : Nat) (a : Act) (w : World) : Prop := ∃ g, I g ∧ μ g < m ∧ Ok { C with D := (Dg g).map markD } (Fi g) (Li g) a w
theorem RunC.loopD {C : Cx} {c : Code} {Q : Exit → Act → World → Prop} {γ : Type} {keep F : Fr} {hkeep L : List HL} (I : γ → Prop) (μ : γ → Nat) (Dg : γ → List Nat) (chg : γ → Fr) (hchg : γ → List HL) (g0 : γ) (h0 : I g0) (hD : C.D = (Dg g0).map markD) (hF : (chg g0).Sub F) (hk : keep.Sub F) (hL : HSub (hchg g0 ++ hkeep) L)
    (round : ∀ g, I g → RunC { C with D := (Dg g).map markD } c (Exit.then (AgainD C I μ Dg (fun g => chg g ++ keep) (fun g => hchg g ++ hkeep) (μ g)) Q) (chg g ++ keep) (hchg g ++ hkeep)) : RunC C (.loop c) Q F L := fun a w ok => by
  refine wpIn_loop_g (fun g a w => I g ∧ Ok { C with D := (Dg g).map markD } (chg g ++ keep) (hchg g ++ hkeep) a w) μ g0 ⟨h0, ?_⟩ ?_
  · have := ok.sub (hF.app hk) hL
    exact ⟨⟨this.fr.size, by rw [this.fr.defers, hD], this.fr.slot⟩, this.sym⟩
  · intro g a1 w1 ⟨hg, okg⟩
    refine wpIn_mono (round g hg a1 w1 okg) ?_
    intro e a2 w2 hq
    cases e <;> first | exact hq | (obtain ⟨g', hg', hm, ok'⟩ := hq; exact ⟨g', hm, hg', ok'⟩)
theorem Ends.againD {C : Cx} {Ds : List Deferred} {Q : Exit → Act → World → Prop} {F : Fr} {L : List HL} {γ : Type} {I : γ → Prop} {μ : γ → Nat} {Dg : γ → List Nat} {Fi : γ → Fr} {Li : γ → List HL} {m : Nat} (g : γ) (hI : I g) (hm : μ g < m) (hF : (Fi g).Sub F) (hL : HSub (Li g) L) (hD : Ds = (Dg g).map markD) :
    Ends { C with D := Ds } .normal (Exit.then (AgainD C I μ Dg Fi Li m) Q) F L := fun a w ok => by
  have := ok.sub hF hL
  exact ⟨g, hI, hm, ⟨this.fr.size, by rw [this.fr.defers, hD], this.fr.slot⟩, this.sym⟩
end Go.V
