/- The proof layer, part b: judgements over frames and heaplets; code; regions in the order of the text. -/
import Derived.Test.YtbodmnijpdffaaaDoorVa
namespace Go.V
open Go

/-- What stays the same while one activation runs. -/
structure Cx where
  P : Program
  r : Option Nat
  n : Nat
  D : List Deferred
  w0 : World
  S : Nat → Prop
structure Ok (C : Cx) (F : Fr) (L : List HL) (a : Act) (w : World) : Prop where
  fr : At C.n C.D F a
  sym : Sym C.w0 C.S L w

def RunC (C : Cx) (c : Code) (Q : Exit → Act → World → Prop) (F : Fr) (L : List HL) : Prop := ∀ a w, Ok C F L a w → c.wpIn (FW C.r) 0 C.P Q a w
def RunL (C : Cx) (ops : Array Oper) (Q : Exit → Act → World → Prop) (l : List Oper) (F : Fr) (L : List HL) : Prop := ∀ a w, Ok C F L a w → wpListIn (FW C.r) 0 C.P ops Q l a w
def Ends (C : Cx) (e : Exit) (Q : Exit → Act → World → Prop) (F : Fr) (L : List HL) : Prop := ∀ a w, Ok C F L a w → Q e a w

section weaken
variable {C : Cx} {Q : Exit → Act → World → Prop} {F F' : Fr} {L L' : List HL}
theorem Ok.sub {a : Act} {w : World} (h : Ok C F' L' a w) (hF : F.Sub F') (hL : HSub L L') : Ok C F L a w := ⟨h.fr.sub hF, h.sym.sub hL⟩
theorem RunC.sub {c : Code} (h : RunC C c Q F L) (hF : F.Sub F') (hL : HSub L L') : RunC C c Q F' L' := fun a w ok => h a w (ok.sub hF hL)
theorem RunL.sub {ops : Array Oper} {l : List Oper} (h : RunL C ops Q l F L) (hF : F.Sub F') (hL : HSub L L') : RunL C ops Q l F' L' := fun a w ok => h a w (ok.sub hF hL)
theorem Ends.sub {e : Exit} (h : Ends C e Q F L) (hF : F.Sub F') (hL : HSub L L') : Ends C e Q F' L' := fun a w ok => h a w (ok.sub hF hL)
end weaken

/-! ### Code -/
section code
variable {C : Cx} {Q : Exit → Act → World → Prop} {F : Fr} {L : List HL}
theorem RunC.seq {x y : Code} (h : RunC C x (Exit.then (y.wpIn (FW C.r) 0 C.P Q) Q) F L) : RunC C (.seq x y) Q F L := fun a w ok => wpIn_seq (h a w ok)
theorem RunC.block {id : Nat} {c : Code} (h : RunC C c (Exit.inBlock id Q) F L) : RunC C (.block id c) Q F L := fun a w ok => wpIn_block (h a w ok)
theorem RunC.skip (h : Ends C .normal Q F L) : RunC C .skip Q F L := fun a w ok => wpIn_skip (h a w ok)
theorem RunC.exit {id : Nat} (h : Ends C (.exit id) Q F L) : RunC C (.exit id) Q F L := fun a w ok => wpIn_exit (h a w ok)
theorem RunC.ret (h : Ends C .ret Q F L) : RunC C .ret Q F L := fun a w ok => wpIn_ret (h a w ok)
theorem RunC.label {l : Nat} (h : Ends C .normal Q F L) : RunC C (.label l) Q F L := fun a w ok => wpIn_label (h a w ok)
theorem RunC.goto {l : Nat} (h : Ends C (.goto l) Q F L) : RunC C (.goto l) Q F L := fun a w ok => wpIn_goto (h a w ok)
/-- A slot that holds a Bool is decided. -/
theorem Ok.decide {t : Nat} {b c : Bool} {a : Act} {w : World} (ok : Ok C F L a w) (hb : F.get t = some (.bool b)) (e : b = c) : Ok C ((t, .bool c) :: F) L a w :=
  ⟨⟨ok.fr.size, ok.fr.defers, fun s v hv => by
    rw [Fr.get_cons] at hv
    by_cases h : t = s
    · subst h; rw [if_pos rfl] at hv; rw [← hv, ← e]; exact ok.fr.slot t _ hb
    · rw [if_neg h] at hv; exact ok.fr.slot s v hv⟩, ok.sym⟩
/-- What is known of a slot anyhow, once more. -/
theorem Ok.again {t : Nat} {v u : Value} {a : Act} {w : World} (ok : Ok C F L a w) (hb : F.get t = some v) (e : v = u) : Ok C ((t, u) :: F) L a w :=
  ⟨⟨ok.fr.size, ok.fr.defers, fun s x hv => by
    rw [Fr.get_cons] at hv
    by_cases h : t = s
    · subst h; rw [if_pos rfl] at hv; rw [← hv, ← e]; exact ok.fr.slot t _ hb
    · rw [if_neg h] at hv; exact ok.fr.slot s x hv⟩, ok.sym⟩
theorem RunC.cond {t : Nat} {x y : Code} {b : Bool} (hb : F.get t = some (.bool b)) (h1 : b = true → RunC C x Q F L) (h2 : b = false → RunC C y Q F L) : RunC C (.cond (.tmp t) x y) Q F L :=
  fun a w ok => wpIn_cond_split (t := b) (ok.fr.ev (x := .tmp t) hb) (fun e => h1 e a w ok) (fun e => h2 e a w ok)
theorem RunC.cond_true {t : Nat} {x y : Code} (hb : F.get t = some (.bool true)) (h1 : RunC C x Q F L) : RunC C (.cond (.tmp t) x y) Q F L :=
  fun a w ok => wpIn_cond_true (ok.fr.ev (x := .tmp t) hb) (h1 a w ok)
theorem RunC.cond_false {t : Nat} {x y : Code} (hb : F.get t = some (.bool false)) (h1 : RunC C y Q F L) : RunC C (.cond (.tmp t) x y) Q F L :=
  fun a w ok => wpIn_cond_false (ok.fr.ev (x := .tmp t) hb) (h1 a w ok)
theorem RunC.region {id : Nat} {l : List Oper} (h : RunL C l.toArray Q l F L) : RunC C (.region id l.toArray false) Q F L := fun a w ok => wpIn_region_lit (h a w ok)
theorem Ends.then {y : Code} (h : RunC C y Q F L) : Ends C .normal (Exit.then (y.wpIn (FW C.r) 0 C.P Q) Q) F L := h
theorem Ends.then_ret {K : Act → World → Prop} (h : Ends C .ret Q F L) : Ends C .ret (Exit.then K Q) F L := h
theorem Ends.then_exit {K : Act → World → Prop} {id : Nat} (h : Ends C (.exit id) Q F L) : Ends C (.exit id) (Exit.then K Q) F L := h
theorem Ends.block {id : Nat} (h : Ends C .normal Q F L) : Ends C .normal (Exit.inBlock id Q) F L := h
theorem Ends.block_ret {id : Nat} (h : Ends C .ret Q F L) : Ends C .ret (Exit.inBlock id Q) F L := h
theorem Ends.block_exit {id : Nat} (h : Ends C .normal Q F L) : Ends C (.exit id) (Exit.inBlock id Q) F L := fun a w ok => by simpa [Exit.inBlock] using h a w ok
theorem Ends.block_out {id id' : Nat} (hne : Nat.beq id id' = false) (h : Ends C (.exit id) Q F L) : Ends C (.exit id) (Exit.inBlock id' Q) F L := fun a w ok => by
  have : id ≠ id' := fun e => by subst e; simp at hne
  simpa [Exit.inBlock, this] using h a w ok
/-- The rounds of a loop: a family of states, a measure. -/
def Again (C : Cx) {γ : Type} (I : γ → Prop) (μ : γ → Nat) (Fi : γ → Fr) (Li : γ → List HL) (m : Nat) (a : Act) (w : World) : Prop := ∃ g, I g ∧ μ g < m ∧ Ok C (Fi g) (Li g) a w
theorem wpIn_loop_g {Fc : Fence} {n : Nat} {P : Program} {Q : Exit → Act → World → Prop} {a : Act} {w : World} {c : Code} {γ : Type} (I : γ → Act → World → Prop) (μ : γ → Nat) (g0 : γ) (h₀ : I g0 a w)
    (round : ∀ g a w, I g a w → c.wpIn Fc n P (Exit.then (fun a' w' => ∃ g', μ g' < μ g ∧ I g' a' w') Q) a w) : (Code.loop c).wpIn Fc n P Q a w := by
  intro b k cs hro hb hr
  have key : ∀ j g a w, μ g = j → I g a w →
      ∃ e a' w', Q e a' w' ∧ ArrivesIn (Machine.fenced P Fc) P (lone (b.atR a (.code c :: .inLoop c :: k)) cs w) b k cs e a' w' := by
    intro j
    induction j using Nat.strongRecOn with
    | _ j ih =>
      intro g a w hn hI
      obtain ⟨e, a₁, w₁, hq, harr⟩ := round g a w hI b (.inLoop c :: k) cs hro hb hr
      cases e with
      | normal =>
        obtain ⟨g', hlt, hI₁⟩ := hq
        obtain ⟨e₂, a₂, w₂, hq₂, harr₂⟩ := ih (μ g') (hn ▸ hlt) g' a₁ w₁ rfl hI₁
        exact ⟨e₂, a₂, w₂, hq₂, .of_steps (StepsIn.trans harr (.one (fenced_calm hb hr rfl) stepR_inLoop)) harr₂⟩
      | exit id => exact ⟨_, a₁, w₁, hq, .pass (x := .inLoop c) rfl (fun _ _ => .inl (by simp)) harr⟩
      | goto l => exact ⟨_, a₁, w₁, hq, .pass (x := .inLoop c) rfl (fun _ _ => .inl (by simp)) harr⟩
      | ret => exact ⟨_, a₁, w₁, hq, .pass (x := .inLoop c) rfl (fun _ _ => .inl (by simp)) harr⟩
      | panic ch => exact ⟨_, a₁, w₁, hq, .pass (x := .inLoop c) rfl (fun _ _ => .inl (by simp)) harr⟩
      | outgrown => exact ⟨_, a₁, w₁, hq, .pass (x := .inLoop c) rfl (fun _ _ => .inl (by simp)) harr⟩
  obtain ⟨e, a', w', hq, harr⟩ := key _ g0 a w rfl h₀
  exact ⟨e, a', w', hq, .of_steps (.one (fenced_calm hb hr rfl) stepR_loop) harr⟩
theorem RunC.loop {c : Code} {γ : Type} (I : γ → Prop) (μ : γ → Nat) (Fi : γ → Fr) (Li : γ → List HL) (g0 : γ) (h0 : I g0) (hF : (Fi g0).Sub F) (hL : HSub (Li g0) L)
    (round : ∀ g, I g → RunC C c (Exit.then (Again C I μ Fi Li (μ g)) Q) (Fi g) (Li g)) : RunC C (.loop c) Q F L := fun a w ok => by
  refine wpIn_loop_g (fun g a w => I g ∧ Ok C (Fi g) (Li g) a w) μ g0 ⟨h0, ok.sub hF hL⟩ ?_
  intro g a1 w1 ⟨hg, okg⟩
  refine wpIn_mono (round g hg a1 w1 okg) ?_
  intro e a2 w2 hq
  cases e <;> first | exact hq | (obtain ⟨g', hg', hm, ok'⟩ := hq; exact ⟨g', hm, hg', ok'⟩)
theorem Ends.again {γ : Type} {I : γ → Prop} {μ : γ → Nat} {Fi : γ → Fr} {Li : γ → List HL} {m : Nat} (g : γ) (hI : I g) (hm : μ g < m) (hF : (Fi g).Sub F) (hL : HSub (Li g) L) :
    Ends C .normal (Exit.then (Again C I μ Fi Li m) Q) F L := fun _ _ ok => ⟨g, hI, hm, ok.sub hF hL⟩
/-- Ways meet again: what the piece leaves is said by a family of states. -/
theorem RunC.meet {c : Code} {γ : Type} (I : γ → Prop) (Fi : γ → Fr) (Li : γ → List HL) (h : RunC C c (fun e a w => (e = .normal ∧ ∃ g, I g ∧ Ok C (Fi g) (Li g) a w) ∨ (e ≠ .normal ∧ Q e a w)) F L)
    (hk : ∀ g, I g → Ends C .normal Q (Fi g) (Li g)) : RunC C c Q F L := fun a w ok =>
  wpIn_mono (h a w ok) fun e a w hq => by
    rcases hq with ⟨rfl, g, hg, ok'⟩ | ⟨_, hq⟩
    · exact hk g hg a w ok'
    · exact hq
theorem Ends.meet {γ : Type} {I : γ → Prop} {Fi : γ → Fr} {Li : γ → List HL} (g : γ) (hI : I g) (hF : (Fi g).Sub F) (hL : HSub (Li g) L) :
    Ends C .normal (fun e a w => (e = .normal ∧ ∃ g, I g ∧ Ok C (Fi g) (Li g) a w) ∨ (e ≠ .normal ∧ Q e a w)) F L := fun _ _ ok => .inl ⟨rfl, g, hI, ok.sub hF hL⟩
theorem Ends.meet_other {γ : Type} {I : γ → Prop} {Fi : γ → Fr} {Li : γ → List HL} {e : Exit} (he : e ≠ .normal) (h : Ends C e Q F L) :
    Ends C e (fun e a w => (e = .normal ∧ ∃ g, I g ∧ Ok C (Fi g) (Li g) a w) ∨ (e ≠ .normal ∧ Q e a w)) F L := fun a w ok => .inr ⟨he, h a w ok⟩
end code

/-! ### Operations -/
/-- Does the guard let the operation in? none: it is not known. -/
def wants (ops : Array Oper) (F : Fr) (o : Oper) : Option Bool :=
  match o.guard with
  | none => some true
  | some (j, want) =>
    match (ops[j]?).bind (·.dst) with
    | none => some false
    | some t =>
      match F.get t with
      | some (.bool b) => some (b == want)
      | some (.tuple _) => some false
      | _ => none
theorem wants_ok {C : Cx} {F : Fr} {L : List HL} {a : Act} {w : World} {ops : Array Oper} {o : Oper} {x : Bool} (ok : Ok C F L a w) (h : wants ops F o = some x) : Region.wanted o (yielded ops a.tmps) = x := by
  unfold wants at h
  unfold Region.wanted
  cases hg : o.guard with
  | none => rw [hg] at h; simpa using h
  | some p =>
    obtain ⟨j, want⟩ := p
    rw [hg] at h
    simp only at h ⊢
    unfold yielded
    cases hd : (ops[j]?).bind (·.dst) with
    | none => rw [hd] at h; simpa using h
    | some t =>
      rw [hd] at h
      simp only [Option.bind_some] at h ⊢
      cases hv : F.get t with
      | none => rw [hv] at h; cases h
      | some v =>
        rw [hv] at h
        rw [ok.fr.slot t v hv]
        cases v <;> simp at h ⊢ <;> first | exact h | simp [← h]
def Still (C : Cx) (o : Oper) (F : Fr) (L : List HL) (v : Value) : Prop :=
  (∀ c, o.op ≠ .defer c) ∧ ∀ a w, Ok C F L a w → (execOp a.eval o).run C.P w = .ok (.value v) w
def Grows (C : Cx) (o : Oper) (F : Fr) (L : List HL) {γ : Type} (φ : γ → Prop) (V : γ → Value) (H : γ → List HL) : Prop :=
  ∀ a w, Ok C F L a w → ∀ (next : Act → World → Prop) (Q : Exit → Act → World → Prop), (∀ g w', φ g → Old Nil w w' → Sym C.w0 C.S (H g ++ L) w' → next (a.put o.dst (V g)) w') → o.wpIn (FW C.r) 0 C.P a w next Q
def Does (C : Cx) (o : Oper) (F : Fr) (L : List HL) {γ : Type} (φ : γ → Prop) (V : γ → Value) (L' : γ → List HL) : Prop :=
  ∀ a w, Ok C F L a w → ∀ (next : Act → World → Prop) (Q : Exit → Act → World → Prop), (∀ g w', φ g → Sym C.w0 C.S (L' g) w' → next (a.put o.dst (V g)) w') → o.wpIn (FW C.r) 0 C.P a w next Q
section ops
variable {C : Cx} {Q : Exit → Act → World → Prop} {F : Fr} {L : List HL} {ops : Array Oper} {o : Oper} {rest : List Oper}
theorem still_wpIn {v : Value} (hs : Still C o F L v) {a : Act} {w : World} (ok : Ok C F L a w) {next : Act → World → Prop} (h : next (a.put o.dst v) w) : o.wpIn (FW C.r) 0 C.P a w next Q := by
  refine ⟨fun _ _ => trivial, ?_⟩
  rw [Oper.semAt_eq _ _ _ hs.1, hs.2 a w ok]
  exact h
theorem RunL.nil (h : Ends C .normal Q F L) : RunL C ops Q [] F L := fun a w ok => h a w ok
theorem RunL.still {d : Nat} {v : Value} (hw : wants ops F o = some true) (hd : o.dst = some d) (hn : Nat.blt d C.n = true) (hs : Still C o F L v) (h : RunL C ops Q rest ((d, v) :: F) L) : RunL C ops Q (o :: rest) F L := fun a w ok => by
  unfold wpListIn
  rw [wants_ok ok hw, if_pos rfl]
  refine still_wpIn hs ok (h _ w ?_)
  rw [hd]
  exact ⟨ok.fr.put (by simpa using hn) v, ok.sym⟩
theorem RunL.off {d : Nat} (hw : wants ops F o = some false) (hd : o.dst = some d) (hn : Nat.blt d C.n = true) (h : RunL C ops Q rest ((d, undef) :: F) L) : RunL C ops Q (o :: rest) F L := fun a w ok => by
  unfold wpListIn
  rw [wants_ok ok hw, if_neg (by simp)]
  refine ⟨fun _ _ => trivial, h _ w ?_⟩
  rw [hd]
  exact ⟨ok.fr.put (by simpa using hn) _, ok.sym⟩
theorem RunL.grows {d : Nat} {γ : Type} {φ : γ → Prop} {V : γ → Value} {H : γ → List HL} (hw : wants ops F o = some true) (hd : o.dst = some d) (hn : Nat.blt d C.n = true) (hg : Grows C o F L φ V H)
    (h : ∀ g, φ g → RunL C ops Q rest ((d, V g) :: F) (H g ++ L)) : RunL C ops Q (o :: rest) F L := fun a w ok => by
  unfold wpListIn
  rw [wants_ok ok hw, if_pos rfl]
  refine hg a w ok _ _ (fun g w' hφ _ hs => h g hφ _ w' ?_)
  rw [hd]
  exact ⟨ok.fr.put (by simpa using hn) _, hs⟩
theorem RunL.does {d : Nat} {γ : Type} {φ : γ → Prop} {V : γ → Value} {L' : γ → List HL} (hw : wants ops F o = some true) (hd : o.dst = some d) (hn : Nat.blt d C.n = true) (hg : Does C o F L φ V L')
    (h : ∀ g, φ g → RunL C ops Q rest ((d, V g) :: F) (L' g)) : RunL C ops Q (o :: rest) F L := fun a w ok => by
  unfold wpListIn
  rw [wants_ok ok hw, if_pos rfl]
  refine hg a w ok _ _ (fun g w' hφ hs => h g hφ _ w' ?_)
  rw [hd]
  exact ⟨ok.fr.put (by simpa using hn) _, hs⟩
theorem RunL.does0 {γ : Type} {φ : γ → Prop} {V : γ → Value} {L' : γ → List HL} (hw : wants ops F o = some true) (hd : o.dst = none) (hg : Does C o F L φ V L')
    (h : ∀ g, φ g → RunL C ops Q rest F (L' g)) : RunL C ops Q (o :: rest) F L := fun a w ok => by
  unfold wpListIn
  rw [wants_ok ok hw, if_pos rfl]
  refine hg a w ok _ _ (fun g w' hφ hs => h g hφ _ w' ?_)
  rw [hd]
  exact ⟨ok.fr.put_none _, hs⟩
/-- A slot that holds a Bool is decided. -/
theorem RunL.split {t : Nat} {b : Bool} {l : List Oper} (hb : F.get t = some (.bool b)) (h1 : b = true → RunL C ops Q l ((t, .bool true) :: F) L) (h2 : b = false → RunL C ops Q l ((t, .bool false) :: F) L) : RunL C ops Q l F L := fun a w ok => by
  cases hbb : b
  · exact h2 hbb a w (ok.decide hb hbb)
  · exact h1 hbb a w (ok.decide hb hbb)
theorem RunL.again {t : Nat} {v u : Value} {l : List Oper} (hv : F.get t = some v) (e : v = u) (h : RunL C ops Q l ((t, u) :: F) L) : RunL C ops Q l F L := fun a w ok => h a w (ok.again hv e)
theorem RunC.again {t : Nat} {v u : Value} {c : Code} (hv : F.get t = some v) (e : v = u) (h : RunC C c Q ((t, u) :: F) L) : RunC C c Q F L := fun a w ok => h a w (ok.again hv e)
end ops

/-! ### A function's contract -/
/-- The call returns: there is a 'g' of which 'φ' holds; the result is 'V g'; outside S nothing has turned; the heaplets 'H g' lie in what is new, or in S. -/
def Ret (w : World) (S : Nat → Prop) {γ : Type} (φ : γ → Prop) (V : γ → Value) (H : γ → List HL) : Ending → World → Prop := fun e w' => ∃ g, φ g ∧ e = .returned (V g) ∧ Sym w S (H g) w'
def Gives (P : Program) (f : FuncId) (args : Array Value) (w : World) (S : Nat → Prop) {γ : Type} (φ : γ → Prop) (V : γ → Value) (H : γ → List HL) : Prop := Calls P f args w (Ret w S φ V H)
def entry : Nat → List Value → Fr
  | _, [] => []
  | i, v :: r => (i, v) :: entry (i + 1) r
theorem entry_get : ∀ (vs : List Value) (i t : Nat) (v : Value), (entry i vs).get t = some v → ∃ k, t = i + k ∧ vs[k]? = some v
  | [], _, _, _, h => by simp [entry, Fr.get] at h
  | u :: r, i, t, v, h => by
    simp only [entry, Fr.get_cons] at h
    by_cases e : i = t
    · rw [if_pos e] at h; exact ⟨0, by omega, by simpa using h⟩
    · rw [if_neg e] at h
      obtain ⟨k, hk, hv⟩ := entry_get r (i + 1) t v h
      exact ⟨k + 1, by omega, by simpa using hv⟩
theorem fn_of_run {P : Program} {f : FuncId} {fn : Func} {c : Code} {args : List Value} {n : Nat} {w : World} {S : Nat → Prop} {L : List HL} {R : Ending → World → Prop}
    (hf : P.funcs[f]? = some fn) (hb : fn.body = some c) (hn : fn.ntmps = n) (hl : args.length ≤ n) (hs : Sym w S L w)
    (h : RunC ⟨P, none, n, [], w, S⟩ c (bodyPost P fn R) (entry 0 args) L) : Calls P f args.toArray w R := by
  refine (callsFW (r := none) (n := 0)).1 (callsIn_of_wp hf hb trivial ?_)
  refine h _ w ⟨⟨?_, rfl, fun t v ht => ?_⟩, hs⟩
  · simp [hn]; omega
  · obtain ⟨k, hk, hv⟩ := entry_get args 0 t v ht
    have : t = k := by omega
    subst this
    have hlt : t < args.length := (List.getElem?_eq_some_iff.1 hv).1
    simp [Array.getElem?_append, hlt]
    simpa [List.getElem?_eq_getElem hlt] using hv
/-- What the result variables hold. -/
inductive Holds (C : Cx) (F : Fr) (L : List HL) : ResultVar → Value → Prop
  | tmp {t : Nat} {v : Value} (h : F.get t = some v) : Holds C F L (.tmp t) v
  | cell {t : Nat} {a : Addr} {ty : TypeId} {v : Value} (h : F.get t = some (.pointer (some a))) (hv : ∀ w, Sym C.w0 C.S L w → (loadVar ty a).run C.P w = .ok v w) : Holds C F L (.cell t ty) v
def resv (tmps : Array Value) : ResultVar → Sem Value
  | .tmp t => pure (tmps.getD t undef)
  | .cell a t => do loadVar t (← asAddr (tmps.getD a undef))
theorem results_eq (fn : Func) (tmps : Array Value) : results fn tmps = (do let vs ← fn.results.mapM (resv tmps); pure (if h : vs.size = 1 then vs[0] else .tuple vs)) := rfl
theorem Holds.run {C : Cx} {F : Fr} {L : List HL} {x : ResultVar} {v : Value} (h : Holds C F L x v) {a : Act} {w : World} (ok : Ok C F L a w) : (resv a.tmps x).run C.P w = .ok v w := by
  cases h with
  | tmp h => have := ok.fr.ev (x := .tmp _) h; simp only [Act.eval] at this; simp only [resv, this]; rfl
  | cell h hv => have := ok.fr.ev (x := .tmp _) h; simp only [Act.eval] at this; simp only [resv, this]; simp [asAddr, hv w ok.sym]
theorem results1 {C : Cx} {F : Fr} {L : List HL} {fn : Func} {x : ResultVar} {v : Value} (hr : fn.results = #[x]) (h : Holds C F L x v) {a : Act} {w : World} (ok : Ok C F L a w) : (results fn a.tmps).run C.P w = .ok v w := by
  have := h.run ok
  simp [results_eq, hr, this]
theorem results2 {C : Cx} {F : Fr} {L : List HL} {fn : Func} {x y : ResultVar} {v u : Value} (hr : fn.results = #[x, y]) (h : Holds C F L x v) (k : Holds C F L y u) {a : Act} {w : World} (ok : Ok C F L a w) :
    (results fn a.tmps).run C.P w = .ok (.tuple #[v, u]) w := by
  have h1 := h.run ok
  have h2 := k.run ok
  simp [results_eq, hr, h1, h2]
theorem results3 {C : Cx} {F : Fr} {L : List HL} {fn : Func} {x y z : ResultVar} {v u t : Value} (hr : fn.results = #[x, y, z]) (h : Holds C F L x v) (k : Holds C F L y u) (l : Holds C F L z t) {a : Act} {w : World} (ok : Ok C F L a w) :
    (results fn a.tmps).run C.P w = .ok (.tuple #[v, u, t]) w := by
  have h1 := h.run ok
  have h2 := k.run ok
  have h3 := l.run ok
  simp [results_eq, hr, h1, h2, h3]
theorem results0 {C : Cx} {F : Fr} {L : List HL} {fn : Func} (hr : fn.results = #[]) {a : Act} {w : World} (_ : Ok C F L a w) : (results fn a.tmps).run C.P w = .ok (.tuple #[]) w := by
  simp [results, hr]
/-- Leaving: by 'ret' or off the end. -/
theorem Ends.leave {P : Program} {n : Nat} {w0 : World} {S : Nat → Prop} {fn : Func} {R : Ending → World → Prop} {F : Fr} {L : List HL} {v : Value} {e : Exit} (he : e = .ret ∨ e = .normal)
    (hr : ∀ a w, Ok ⟨P, none, n, [], w0, S⟩ F L a w → (results fn a.tmps).run P w = .ok v w) (hR : ∀ w', Sym w0 S L w' → R (.returned v) w') : Ends ⟨P, none, n, [], w0, S⟩ e (bodyPost P fn R) F L := fun a w ok => by
  rcases he with rfl | rfl <;> exact ⟨ok.fr.defers, v, hr a w ok, hR w ok.sym⟩
theorem Ret.intro {w0 : World} {S : Nat → Prop} {γ : Type} {φ : γ → Prop} {V : γ → Value} {H : γ → List HL} {v : Value} {L : List HL} {w' : World} (g : γ) (hφ : φ g) (hv : v = V g) (hH : HSub (H g) L) (hs : Sym w0 S L w') : Ret w0 S φ V H (.returned v) w' :=
  ⟨g, hφ, by rw [hv], hs.sub hH⟩
end Go.V
