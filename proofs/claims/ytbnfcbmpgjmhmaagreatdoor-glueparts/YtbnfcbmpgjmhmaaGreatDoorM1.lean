/- Gluings: how permutations lie in arrays that are written bit by bit. -/
import Derived.Test.YtbnfcbmpgjmhmaaGreatDoorM0
import Derived.Test.YtbnfcbmpgjmhmaaGreatDoorProg
import Derived.KernelRfl
import Derived.ProofKit
import Derived.OpenShut
import Derived.Lib.Join
import Derived.Lib.ItoaNum
import Derived.Lib.AtoiAll
import Derived.Lib.Split
namespace Go.V
open Go
theorem nth_p4 {p : P4} {i : Nat} (h : i < 4) : nth [iv p.a0, iv p.a1, iv p.a2, iv p.a3] (0 + i * 1) = some (iv (p.at i)) := by
  match i, h with
  | 0, _ => rfl
  | 1, _ => rfl
  | 2, _ => rfl
  | 3, _ => rfl
theorem nth_p4o {x : Int} {p : P4} {i : Nat} (h : i < 4) : nth [iv x, iv p.a0, iv p.a1, iv p.a2, iv p.a3] (1 + i * 1) = some (iv (p.at i)) := by
  match i, h with
  | 0, _ => rfl
  | 1, _ => rfl
  | 2, _ => rfl
  | 3, _ => rfl
def orI (a b : Int) : Int := IntKind.i64.wrap ((BitVec.ofInt IntKind.i64.bits a ||| BitVec.ofInt IntKind.i64.bits b).toNat)
def bitI (x : Int) : Int := 2 ^ x.toNat
def bitsTo (p : P4) : Nat → Int
  | 0 => 0
  | i + 1 => orI (bitsTo p i) (bitI (p.at i))
theorem shl_bit {x : Int} (h : 0 ≤ x ∧ x ≤ 3) : IntKind.i64.wrap (1 * 2 ^ (min x.toNat IntKind.i64.bits)) = bitI x := by
  have : x = 0 ∨ x = 1 ∨ x = 2 ∨ x = 3 := by omega
  rcases this with rfl | rfl | rfl | rfl <;> decide +kernel
def nums256 (n : Nat) : P4 := ⟨((n / 64 : Nat) : Int), ((n / 16 % 4 : Nat) : Int), ((n / 4 % 4 : Nat) : Int), ((n % 4 : Nat) : Int)⟩
theorem p4_256 {p : P4} (h : ∀ j, j < 4 → 0 ≤ p.at j ∧ p.at j ≤ 3) : ∃ n, n < 256 ∧ p = nums256 n := by
  have h0 := h 0 (by decide); have h1 := h 1 (by decide); have h2 := h 2 (by decide); have h3 := h 3 (by decide)
  obtain ⟨a, b, c, d⟩ := p
  simp only [P4.at] at h0 h1 h2 h3
  refine ⟨(64 * a + 16 * b + 4 * c + d).toNat, by omega, ?_⟩
  have e0 : (((64 * a + 16 * b + 4 * c + d).toNat / 64 : Nat) : Int) = a := by omega
  have e1 : (((64 * a + 16 * b + 4 * c + d).toNat / 16 % 4 : Nat) : Int) = b := by omega
  have e2 : (((64 * a + 16 * b + 4 * c + d).toNat / 4 % 4 : Nat) : Int) = c := by omega
  have e3 : (((64 * a + 16 * b + 4 * c + d).toNat % 4 : Nat) : Int) = d := by omega
  rw [nums256, e0, e1, e2, e3]
theorem all256 {Q : P4 → Bool} (h : ((List.range 256).all fun n => Q (nums256 n)) = true) {p : P4} (hp : ∀ j, j < 4 → 0 ≤ p.at j ∧ p.at j ≤ 3) : Q p = true := by
  obtain ⟨n, hn, rfl⟩ := p4_256 hp
  exact List.all_eq_true.1 h n (List.mem_range.2 hn)
theorem bitsTo_ok {p : P4} (h : ∀ j, j < 4 → 0 ≤ p.at j ∧ p.at j ≤ 3) : decide (bitsTo p 4 = 15) = okP p := of_decide_eq_true (all256 (Q := fun p => decide (decide (bitsTo p 4 = 15) = okP p)) (by decide +kernel) h)
theorem okP_lo {p : P4} {i : Nat} (h : p.at i < 0) : okP p = false := by
  by_cases ho : okP p = true
  · have := okP_at ho i; omega
  · simpa using ho
theorem okP_hi {p : P4} {i : Nat} (h : 3 < p.at i) : okP p = false := by
  by_cases ho : okP p = true
  · have := okP_at ho i; omega
  · simpa using ho
def mt (p : P4) (i : Nat) (v : Int) : Bool := (List.range i).any fun j => decide (p.at j = v)
theorem mt_succ (p : P4) (i : Nat) (v : Int) : mt p (i + 1) v = (mt p i v || decide (p.at i = v)) := by simp [mt, List.range_succ]
def metA (p : P4) (i : Nat) : Array Value := #[.bool (mt p i 0), .bool (mt p i 1), .bool (mt p i 2), .bool (mt p i 3)]
theorem nth_met {p : P4} {i : Nat} {x : Int} (h : 0 ≤ x ∧ x ≤ 3) : nth (metA p i).toList (0 + x.toNat * 1) = some (.bool (mt p i x)) := by
  have : x = 0 ∨ x = 1 ∨ x = 2 ∨ x = 3 := by omega
  rcases this with rfl | rfl | rfl | rfl <;> rfl
theorem metA_set {p : P4} {i : Nat} (h : 0 ≤ p.at i ∧ p.at i ≤ 3) : (metA p i).setIfInBounds (0 + (p.at i).toNat * 1) (.bool true) = metA p (i + 1) := by
  simp only [metA, mt_succ]
  have : p.at i = 0 ∨ p.at i = 1 ∨ p.at i = 2 ∨ p.at i = 3 := by omega
  rcases this with e | e | e | e <;> rw [e] <;> simp
theorem okP_met {p : P4} {i : Nat} (hi : i < 4) (h : mt p i (p.at i) = true) : okP p = false := by
  obtain ⟨j, hj, e⟩ := List.any_eq_true.1 h
  have e := of_decide_eq_true e
  have hj := List.mem_range.1 hj
  by_cases ho : okP p = true
  · have ho := of_decide_eq_true ho
    obtain ⟨-, -, -, -, n01, n02, n03, n12, n13, n23⟩ := ho
    match i, hi, j, hj with
    | 1, _, 0, _ => exact absurd e n01
    | 2, _, 0, _ => exact absurd e n02
    | 2, _, 1, _ => exact absurd e n12
    | 3, _, 0, _ => exact absurd e n03
    | 3, _, 1, _ => exact absurd e n13
    | 3, _, 2, _ => exact absurd e n23
  · simpa using ho
theorem okP_true {p : P4} (h : ∀ j, j < 4 → (0 ≤ p.at j ∧ p.at j ≤ 3) ∧ mt p j (p.at j) = false) : okP p = true := by
  have h1 := h 1 (by decide); have h2 := h 2 (by decide); have h3 := h 3 (by decide)
  have m1 : p.a0 ≠ p.a1 := by simpa [mt, List.range_succ, P4.at] using h1.2
  have m2 : p.a0 ≠ p.a2 ∧ p.a1 ≠ p.a2 := by simpa [mt, List.range_succ, P4.at] using h2.2
  have m3 : p.a0 ≠ p.a3 ∧ p.a1 ≠ p.a3 ∧ p.a2 ≠ p.a3 := by simpa [mt, List.range_succ, P4.at] using h3.2
  exact decide_eq_true ⟨(h 0 (by decide)).1, h1.1, h2.1, h3.1, m1, m2.1, m3.1, m2.2, m3.2.1, m3.2.2⟩
def cTo (c : P4) (i : Nat) : Array Value := #[iv (if 0 < i then c.a0 else 0), iv (if 1 < i then c.a1 else 0), iv (if 2 < i then c.a2 else 0), iv (if 3 < i then c.a3 else 0)]
theorem cTo_set {c : P4} {i : Nat} {x : Int} (hi : i < 4) (hx : c.at i = x) : (cTo c i).setIfInBounds (0 + i * 1) (iv x) = cTo c (i + 1) := by
  subst hx
  match i, hi with
  | 0, _ => rfl
  | 1, _ => rfl
  | 2, _ => rfl
  | 3, _ => rfl
def ixTo (p : P4) : Nat → Int → Int
  | 0, _ => 0
  | i + 1, v => if p.at i = v then (i : Int) else ixTo p i v
def invA (p : P4) (i : Nat) : Array Value := #[iv (ixTo p i 0), iv (ixTo p i 1), iv (ixTo p i 2), iv (ixTo p i 3)]
theorem ixTo_four (p : P4) (v : Int) : ixTo p 4 v = ix4 p v := by
  simp only [ixTo, ix4, P4.at]
  by_cases h3 : p.a3 = v
  · simp [h3]
  · by_cases h2 : p.a2 = v
    · simp [h3, h2]
    · by_cases h1 : p.a1 = v
      · simp [h3, h2, h1]
      · simp [h3, h2, h1]
theorem invA_four (p : P4) : invA p 4 = #[iv (invP p).a0, iv (invP p).a1, iv (invP p).a2, iv (invP p).a3] := by simp only [invA, ixTo_four, invP]
theorem invA_set {p : P4} {i : Nat} (h : 0 ≤ p.at i ∧ p.at i ≤ 3) : (invA p i).setIfInBounds (0 + (p.at i).toNat * 1) (iv i) = invA p (i + 1) := by
  simp only [invA, ixTo]
  have : p.at i = 0 ∨ p.at i = 1 ∨ p.at i = 2 ∨ p.at i = 3 := by omega
  rcases this with e | e | e | e <;> rw [e] <;> simp
end Go.V
/- The proof layer, part w: ranges over a function that are left early; facts among the heaplets. -/
namespace Go.V
open Go
/-- A fact. -/
def HL.pure (p : Prop) : HL := ⟨fun _ => False, fun _ => p, fun _ _ _ h => h⟩
theorem Sym.pureI {w0 w : World} {S : Nat → Prop} {L : List HL} {p : Prop} (hp : p) (hs : Sym w0 S L w) : Sym w0 S (HL.pure p :: L) w := by
  refine ⟨hs.old, fun h hm => ?_, fun h hm b hb => ?_, List.pairwise_cons.2 ⟨fun _ _ b hb => hb.elim, hs.apart⟩⟩
  · rcases List.mem_cons.1 hm with rfl | hm
    · exact hp
    · exact hs.holds h hm
  · rcases List.mem_cons.1 hm with rfl | hm
    · exact hb.elim
    · exact hs.supp h hm b hb
theorem Ends.know {C : Cx} {Q : Exit → Act → World → Prop} {e : Exit} {F : Fr} {L : List HL} {p : Prop} (hp : ∀ w, Sym C.w0 C.S L w → p) (h : p → Ends C e Q F L) : Ends C e Q F L := fun a w ok => h (hp w ok.sym) a w ok
/-- What a call of yield does: one round; it goes on, or it leaves a jump. -/
def YieldsJ (P : Program) (l : Nat) (vs : Array Value) (w : World) (S : Nat → Prop) {σ : Type} (jmp : σ → Option Code) (H : σ → HL) : Prop :=
  ∃ r : Loop, w.heap[l]? = some (.loop r) ∧ vs.size = r.params.size ∧ RoundIn (FW none) 0 P l r.fn ((r.params.zip vs).foldl (fun tmps (t, a) => tmps.setIfInBounds t a) r.tmps) r.assign r.body w fun e w' => ∃ s, e = .returned (.bool (jmp s).isNone) ∧ Sym w S [H s] w'
section yield
variable {C : Cx} {F : Fr} {L : List HL} {o : Oper}
theorem Does.yieldJ {x : Operand} {ys : Array Operand} {ts : Array TypeId} {i l : Nat} {vs : Array Value} {h : HL} {σ : Type} {jmp : σ → Option Code} {H : σ → HL} (ho : o.op = .call { callee := .value x, args := ys, argTypes := ts }) (hr : C.r = none) (hx : F.ev x = some (.func (.yield l) #[] #[])) (hy : ys.toList.map F.ev = vs.toList.map some) (hi : L[i]? = some h)
    (hyi : ∀ w, Sym C.w0 C.S L w → YieldsJ C.P l vs w h.supp jmp H) : Does C o F L (fun _ : σ => True) (fun s => .bool (jmp s).isNone) (fun s => L.set i (H s)) := fun a w ok next Q hn => by
  refine ⟨fun _ _ => trivial, ?_⟩
  rw [Oper.semAt_eq _ _ _ (fun c h => by rw [ho] at h; cases h)]
  obtain ⟨r, hl, hp, hround⟩ := hyi w ok.sym
  have hyr := run_yield (P := C.P) (args := vs) hl hp
  have e := eval_list ok hy
  have hrun : (execOp a.eval o).run C.P w = .ok (.round l r.fn ((r.params.zip vs).foldl (fun tmps (t, a) => tmps.setIfInBounds t a) r.tmps) r.assign r.body) w := by
    simp only [execOp, ho, resolve, ok.fr.ev hx, e]
    simp [Deferred.ofValue, invoke, hyr]
  rw [hrun, Oper.uponIn_round, hr]
  refine ⟨fun h => by simp [FW] at h, hround.mono ?_⟩
  rintro e w' ⟨s, rfl, hs⟩
  refine hn s w' trivial (ok.sym.turn hi (fun b hb => ?_) hs.old (hs.holds _ (by simp)))
  have := hs.supp (H s) (by simp) b hb
  exact ⟨this.2.symm, this.1⟩
end yield
theorem Sym.outer {w00 w w1 : World} {S00 S : Nat → Prop} {L : List HL} (hs : Sym w S L w1) (hO : Old S00 w00 w) (hS : ∀ b, S b → w00.heap.size ≤ b ∨ S00 b) : Old S00 w00 w1 :=
  hO.step hs.old fun i hi hk => by
    rcases hS i hk with h | h
    · omega
    · exact h
def RoundEndJ (C : Cx) (l : Nat) (rb : Loop) {σ : Type} (jmp : σ → Option Code) (H : σ → HL) : Exit → Act → World → Prop
  | .normal, _, w => ∃ s, jmp s = none ∧ Sym C.w0 C.S [HL.obj l (.loop rb), H s] w
  | .ret, _, w => ∃ s, jmp s = some .ret ∧ Sym C.w0 C.S [HL.obj l (.loop rb), H s] w
  | .exit id, _, w => ∃ s, jmp s = some (.exit id) ∧ Sym C.w0 C.S [HL.obj l (.loop rb), H s] w
  | _, _, _ => False
def RoundBeginJ (C : Cx) (l : Nat) (rc : Loop) (body : Code) {σ : Type} (jmp : σ → Option Code) (H : σ → HL) : Exit → Act → World → Prop
  | .normal, a, w => ∃ F1 L1, Ok C F1 (HL.obj l (.loop rc) :: L1) a w ∧ RunC C body (RoundEndJ C l { rc with state := .busy } jmp H) F1 (HL.obj l (.loop { rc with state := .busy }) :: L1)
  | _, _, _ => False
theorem Ends.roundEndJ {C : Cx} {l : Nat} {rb : Loop} {σ : Type} {jmp : σ → Option Code} {H : σ → HL} {F : Fr} {L : List HL} (s : σ) (hj : jmp s = none) (hL : HSub [HL.obj l (.loop rb), H s] L) : Ends C .normal (RoundEndJ C l rb jmp H) F L := fun _ _ ok => ⟨s, hj, ok.sym.sub hL⟩
theorem Ends.roundRetJ {C : Cx} {l : Nat} {rb : Loop} {σ : Type} {jmp : σ → Option Code} {H : σ → HL} {F : Fr} {L : List HL} (s : σ) (hj : jmp s = some .ret) (hL : HSub [HL.obj l (.loop rb), H s] L) : Ends C .ret (RoundEndJ C l rb jmp H) F L := fun _ _ ok => ⟨s, hj, ok.sym.sub hL⟩
theorem Ends.roundBeginJ {C : Cx} {l : Nat} {rc : Loop} {body : Code} {σ : Type} {jmp : σ → Option Code} {H : σ → HL} {F F1 : Fr} {L L1 : List HL} (hF : F1.Sub F) (hL : HSub (HL.obj l (.loop rc) :: L1) L) (h : RunC C body (RoundEndJ C l { rc with state := .busy } jmp H) F1 (HL.obj l (.loop { rc with state := .busy }) :: L1)) :
    Ends C .normal (RoundBeginJ C l rc body jmp H) F L := fun _ _ ok => ⟨F1, L1, ok.sub hF hL, h⟩
def recJ (rc : Loop) (j : Option Code) : Loop := { rc with state := if j.isNone then .ready else .done, pending := j }
theorem At.puts {n : Nat} {D : List Deferred} : ∀ {ps : List (Nat × Value)} {F : Fr} {a : Act}, At n D F a → (∀ p ∈ ps, p.1 < n) → At n D (ps.reverse ++ F) { a with tmps := ps.foldl (fun t (p : Nat × Value) => t.setIfInBounds p.1 p.2) a.tmps }
  | [], _, _, h, _ => h
  | (p, v) :: r, F, a, h, hp => by
    have h1 : At n D ((p, v) :: F) { a with tmps := a.tmps.setIfInBounds p v } := h.put (hp (p, v) (List.mem_cons_self ..)) v
    have h2 := At.puts (ps := r) h1 (fun q hq => hp q (List.mem_cons_of_mem _ hq))
    simpa using h2
theorem yieldsJ_of_run {P : Program} {l n : Nat} {ps : List Nat} {rc : Loop} {vs : List Value} {w : World} {F : Fr} {K : HL} {σ : Type} {jmp : σ → Option Code} {H : σ → HL} (hst : rc.state = .ready) (hpe : rc.pending = none) (hps : rc.params = ps.toArray) (hlen : ps.length = vs.length) (hp : ∀ p ∈ ps, p < n) (hfr : At n [] F { tmps := rc.tmps, defers := [] })
    (hK : (HL.star (HL.obj l (.loop rc)) K).holds w) (hlt : ∀ b, (HL.star (HL.obj l (.loop rc)) K).supp b → b < w.heap.size)
    (h : RunC ⟨P, some l, n, [], w, (HL.star (HL.obj l (.loop rc)) K).supp⟩ rc.assign (RoundBeginJ ⟨P, some l, n, [], w, (HL.star (HL.obj l (.loop rc)) K).supp⟩ l rc rc.body jmp H) ((ps.zip vs).reverse ++ F) [HL.obj l (.loop rc), K]) :
    YieldsJ P l vs.toArray w (HL.star (HL.obj l (.loop rc)) K).supp jmp (fun s => HL.star (HL.obj l (.loop (recJ rc (jmp s)))) (H s)) := by
  refine ⟨rc, hK.1, by rw [hps]; simp [hlen], ?_⟩
  have htm : (rc.params.zip vs.toArray).foldl (fun tmps (t, a) => tmps.setIfInBounds t a) rc.tmps = (ps.zip vs).foldl (fun t (p : Nat × Value) => t.setIfInBounds p.1 p.2) rc.tmps := by
    rw [hps, ← Array.foldl_toList, Array.toList_zip]
  rw [htm]
  refine roundIn_of_wpIn (F := FW none) trivial ?_
  refine wpIn_mono (h _ w ⟨?_, (Sym.own1 hK hlt).unstar⟩) ?_
  · exact hfr.puts (fun q hq => hp q.1 (List.of_mem_zip (a := q.1) (b := q.2) hq).1)
  · intro e a1 w1 hq
    cases e <;> try exact hq.elim
    obtain ⟨F1, L1, ok, hb⟩ := hq
    have hl1 := ok.sym.at (i := 0) rfl
    refine ⟨_, run_beginRound hl1 hst, ?_⟩
    refine wpIn_mono (hb a1 _ ⟨ok.fr, ok.sym.putObj (i := 0) rfl⟩) ?_
    intro e a2 w2 hq
    have key : ∀ (j : Option Code) (s : σ), jmp s = j → Sym w (HL.star (HL.obj l (.loop rc)) K).supp [HL.obj l (.loop { rc with state := .busy }), H s] w2 →
        ∃ v w', (Instr.endRound l j).run P w2 = .ok v w' ∧ ∃ s, Ending.returned v = .returned (.bool (jmp s).isNone) ∧ Sym w (HL.star (HL.obj l (.loop rc)) K).supp [HL.star (HL.obj l (.loop (recJ rc (jmp s)))) (H s)] w' := by
      intro j s hj hq
      have hl2 := hq.at (i := 0) rfl
      refine ⟨_, _, run_endRound j hl2, s, by rw [hj], ?_⟩
      rw [hj]
      exact (hq.putObj (i := 0) (o' := .loop (recJ rc j)) rfl).star
    cases e <;> try exact hq.elim
    · obtain ⟨s, hj, hq⟩ := hq; exact key _ s hj hq
    · obtain ⟨s, hj, hq⟩ := hq; exact key _ s hj hq
    · obtain ⟨s, hj, hq⟩ := hq; exact key _ s hj hq
/-- Behind a range: on, or where a jump leads. -/
def Behind (C : Cx) (Q : Exit → Act → World → Prop) (F : Fr) (L : List HL) : Option Code → Prop
  | none => Ends C .normal Q F L
  | some c => RunC C c Q F L
theorem RunC.rangeFuncJ {C : Cx} {F : Fr} {L R : List HL} {Q : Exit → Act → World → Prop} {g : Operand} {ps : Array Tmp} {assign body : Code} {gf N : Nat} {lb : Array Value} {V : Value} {σ : Type} (s0 : σ) (jmp : σ → Option Code) (x : Nat → List Value) (K : Nat → σ → HL) (hr : C.r = none) (hp : ps.toList.all (fun p => Nat.blt p C.n) = true) (hx : ∀ j, ps.toList.length = (x j).length)
    (hg : F.ev g = some (.func (.func gf) #[] lb)) (hgf : ∀ args w, (callFunc gf args).run C.P w = .ok (.enter gf args) w) (h0 : jmp s0 = none) (hL : HSub (K 0 s0 :: R) L)
    (hround : ∀ (l : Nat) (rc : Loop) (j : Nat) (s : σ) (w : World) (S : Nat → Prop), Old C.S C.w0 w → (∀ b, S b → C.w0.heap.size ≤ b ∨ C.S b) → j < N → jmp s = none → rc.assign = assign → rc.body = body → RunC ⟨C.P, some l, C.n, [], w, S⟩ assign (RoundBeginJ ⟨C.P, some l, C.n, [], w, S⟩ l rc body jmp (K (j + 1))) ((ps.toList.zip (x j)).reverse ++ F) [HL.obj l (.loop rc), K j s])
    (hcall : ∀ (l : Nat) (J : Nat → σ → HL) (w : World), Sym C.w0 C.S (J 0 s0 :: R) w → (∀ j s, j < N → jmp s = none → ∀ w', Old (J 0 s0).supp w w' → (J j s).holds w' → (∀ b, (J j s).supp b → b < w'.heap.size ∧ (w.heap.size ≤ b ∨ (J 0 s0).supp b)) → YieldsJ C.P l (x j).toArray w' (J j s).supp jmp (J (j + 1))) →
      Gives C.P gf (#[.func (.yield l) #[] #[]] ++ lb) w (J 0 s0).supp (fun r : Nat × σ => jmp r.2 = none → r.1 = N) (fun _ => V) (fun r => [J r.1 r.2]))
    (hk : ∀ D j s, (jmp s = none → j = N) → Behind { C with D := markD D :: C.D } Q F (K j s :: HL.obj D (.deferred (some [])) :: R) (jmp s)) : RunC C (.rangeFunc g ps assign body) Q F L := fun a w ok => by
  refine wpIn_rangeFunc fun fn _ => ?_
  rw [show (FW C.r).round = none by rw [hr]; rfl]
  let rc : Loop := { state := .ready, pending := none, fn, tmps := a.tmps, params := ps, assign, body, defers := w.heap.size }
  let J : Nat → σ → HL := fun j s => HL.star (HL.obj (w.heap.size + 1) (.loop (recJ rc (jmp s)))) (K j s)
  let W1 := (w.alloc (.deferred (some []))).alloc (.loop rc)
  have hrc0 : ∀ s, jmp s = none → recJ rc (jmp s) = rc := fun s hs => by rw [hs]; rfl
  have hs1 : Sym C.w0 C.S (J 0 s0 :: HL.obj w.heap.size (.deferred (some [])) :: R) W1 := by
    have h1 := ((ok.sym.sub hL).alloc (.deferred (some []))).alloc (.loop rc)
    rw [World.size_alloc] at h1
    have hsb : HSub (HL.obj (w.heap.size + 1) (.loop rc) :: K 0 s0 :: HL.obj w.heap.size (.deferred (some [])) :: R) (HL.obj (w.heap.size + 1) (.loop rc) :: HL.obj w.heap.size (.deferred (some [])) :: K 0 s0 :: R) := HSub.pick 0 rfl (HSub.pick 1 rfl (HSub.pick 0 rfl (HSub.refl R)))
    show Sym C.w0 C.S (HL.star (HL.obj (w.heap.size + 1) (.loop (recJ rc (jmp s0)))) (K 0 s0) :: _) W1
    rw [hrc0 s0 h0]
    exact (h1.sub hsb).star
  refine ⟨w.heap.size + 1, [markD w.heap.size], W1, { target := .fn (.func gf) lb, args := #[.func (.yield (w.heap.size + 1)) #[] #[]] }, W1, gf, #[.func (.yield (w.heap.size + 1)) #[] #[]] ++ lb, W1, run_enterLoop_outer _ _ _ _ _, ?_, fun _ _ => trivial, ?_, fun h => by simp [FW] at h, ?_⟩
  · simp only [resolve, ok.fr.ev hg]
    simp [go_sem]
  · simp [invoke, go_sem, hgf]
  · refine callsFW.2 ?_
    have hs1' : Sym C.w0 C.S (J 0 s0 :: R) W1 := hs1.sub (HSub.pick 0 rfl (HSub.skip (HSub.refl R)))
    refine Calls.mono (hcall (w.heap.size + 1) J W1 hs1' ?_) ?_
    · intro j s hj hjs w' hO hh hlt
      have hO2 : Old C.S C.w0 w' := hs1'.old.step hO fun i hi hk => by
        rcases (hs1'.supp (J 0 s0) (List.mem_cons_self ..) i hk).2 with h | h
        · omega
        · exact h
      have hS2 : ∀ b, (J j s).supp b → C.w0.heap.size ≤ b ∨ C.S b := fun b hb => by
        have hz := hs1'.old.size
        rcases (hlt b hb).2 with h | h
        · exact .inl (by omega)
        · exact (hs1'.supp (J 0 s0) (List.mem_cons_self ..) b h).2
      have hlt : ∀ b, (J j s).supp b → b < w'.heap.size := fun b hb => (hlt b hb).1
      have hJ : J j s = HL.star (HL.obj (w.heap.size + 1) (.loop rc)) (K j s) := by show HL.star (HL.obj _ (.loop (recJ rc (jmp s)))) _ = _; rw [hrc0 s hjs]
      rw [hJ] at hh hlt hS2 ⊢
      refine yieldsJ_of_run (n := C.n) (ps := ps.toList) rfl rfl (by simp [rc]) (hx j) (fun p hp' => by have := List.all_eq_true.1 hp p hp'; simpa using this) ⟨ok.fr.size, rfl, ok.fr.slot⟩ hh hlt ?_
      refine hround _ _ j s w' _ hO2 hS2 hj hjs rfl rfl
    · rintro e w3 ⟨⟨j, s⟩, hjN, rfl, hs3⟩
      have h3 := (Sym.handed (K := [J 0 s0]) (R := HL.obj w.heap.size (.deferred (some [])) :: R) hs1 (fun b hb _ => ⟨_, List.mem_singleton.2 rfl, hb⟩) hs3).unstar
      have hl3 := h3.at (i := 0) rfl
      have hnb : (recJ rc (jmp s)).state ≠ .busy := by
        show (if (jmp s).isNone then LoopState.ready else .done) ≠ .busy
        split <;> simp
      refine ⟨jmp s, _, run_endLoop hl3 hnb, ?_⟩
      have hok : Ok { C with D := markD w.heap.size :: C.D } F (K j s :: HL.obj w.heap.size (.deferred (some [])) :: R) { a with defers := [markD w.heap.size] ++ a.defers } (w3.putObj (w.heap.size + 1) (.loop { recJ rc (jmp s) with state := .exhausted })) :=
        ⟨⟨ok.fr.size, by show _ ++ a.defers = _ :: C.D; rw [ok.fr.defers]; rfl, ok.fr.slot⟩, (h3.putObj (i := 0) (o' := .loop { recJ rc (jmp s) with state := .exhausted }) rfl).sub (HSub.skip (HSub.refl _))⟩
      have hb := hk w.heap.size j s hjN
      cases hc : jmp s with
      | none => rw [hc] at hb hok; exact hb _ _ hok
      | some c => rw [hc] at hb hok; exact hb _ _ hok
theorem Ok.results2 {C : Cx} {F : Fr} {L : List HL} {a : Act} {w : World} (ok : Ok C F L a w) {fn : Func} {x y : ResultVar} {v u : Value} (hr : fn.results = #[x, y]) (h : Holds C F L x v) (h2 : Holds C F L y u) : (results fn a.tmps).run C.P w = .ok (.tuple #[v, u]) w := V.results2 hr h h2 ok
/-- What is appended may be nil. -/
theorem Does.appendAny {C : Cx} {F : Fr} {L : List HL} {o : Oper} {t e ty : TypeId} {x y : Operand} {i n k m c bytes n' : Nat} {v z : Value} {xs news xs' : List Value} {A : Addr} {p : Option Addr} {q : TypeInfo} (ho : o.op = .call { callee := .builtin .append, args := #[x, y], argTypes := #[t, t] }) (hty : o.type = ty)
    (hx : F.ev x = some v) (hy : F.ev y = some (.slice p m c)) (hp : 0 < m → p = some A) (hi : L[i]? = some (HL.own e k v n xs)) (ht : C.P.underlying t = some (.slice e)) (hq : C.P.info? e = some q)
    (hinf : (C.P.info? e).map (fun i => (i.zero, i.size, i.bytes)) = some (some z, k, bytes)) (hzs : z.cells.size = k) (hk : Nat.blt 0 k = true)
    (hnews : ∀ w, Sym C.w0 C.S L w → Cells w A news) (hl : news.length = m * k) (h1 : news.all Value.oneCell' = true) (hb : (n + m) * bytes ≤ 140737488355328) (hm : n + m ≤ 9223372036854775807) (hn' : n + m = n') (hxs : xs ++ news = xs') :
    Does C o F L (fun v' : Value => v' = .slice none 0 0 ↔ v = .slice none 0 0 ∧ m = 0) (fun v' => v') (fun v' => L.set i (HL.own e k v' n' xs')) := by
  rcases Nat.eq_zero_or_pos m with h0 | h0
  · have hn0 : news = [] := List.eq_nil_of_length_eq_zero (by rw [hl, h0, Nat.zero_mul])
    subst hn0
    cases p with
    | some B => exact Does.appendTo (A := B) ho hty hx hy hi ht hinf hzs hk (fun w _ j u hj => by simp at hj) hl h1 hb hm hn' hxs
    | none =>
      intro a w ok next Q h
      have hr := (Still.appendNil (C := C) ho hty hx hy h0 hi ht hq).2 a w ok
      refine wpIn_value (fun c h => (by rw [ho] at h; cases h)) hr (h v w (by simp [h0]) ?_)
      subst h0; subst hn'; subst hxs
      rw [Nat.add_zero, List.append_nil]
      obtain ⟨hlt, hge⟩ := List.getElem?_eq_some_iff.1 hi
      have e : L.set i (HL.own e k v n xs) = L := by rw [← hge, List.set_getElem_self]
      show Sym C.w0 C.S (L.set i (HL.own _ k v n xs)) w
      rw [e]
      exact ok.sym
  · rw [hp h0] at hy
    exact Does.appendTo ho hty hx hy hi ht hinf hzs hk hnews hl h1 hb hm hn' hxs
end Go.V
/- Gluings: the check, face by face. -/
namespace Go.V
open Go
theorem ttV_part (x : Tt) {f : Nat} (hf : f < 4) : (#[iv x.f0.tet, iv x.f0.p.a0, iv x.f0.p.a1, iv x.f0.p.a2, iv x.f0.p.a3, iv x.f1.tet, iv x.f1.p.a0, iv x.f1.p.a1, iv x.f1.p.a2, iv x.f1.p.a3,
   iv x.f2.tet, iv x.f2.p.a0, iv x.f2.p.a1, iv x.f2.p.a2, iv x.f2.p.a3, iv x.f3.tet, iv x.f3.p.a0, iv x.f3.p.a1, iv x.f3.p.a2, iv x.f3.p.a3] : Array Value).extract (((f : Nat) : Int).toNat * 5) (((f : Nat) : Int).toNat * 5 + 5) =
   #[iv (x.at f).tet, iv (x.at f).p.a0, iv (x.at f).p.a1, iv (x.at f).p.a2, iv (x.at f).p.a3] := by
  match f, hf with
  | 0, _ => simp [Tt.at]
  | 1, _ => simp [Tt.at]
  | 2, _ => simp [Tt.at]
  | 3, _ => simp [Tt.at]
theorem bnd_t {p : Prop} [Decidable p] (h : (!decide p) = true) : ¬ p := by simpa using h
theorem bnd_f {p : Prop} [Decidable p] (h : (!decide p) = false) : p := by simpa using h
theorem fAt_of {g : Glu} {t : Nat} {x : Tt} (h : g[t]? = some x) (f : Nat) : fAt g t f = x.at f := by rw [fAt, tAt_eq h]
theorem fc_eq {x : Fc} {a b c d e : Int} : (x.tet = a ∧ x.p.a0 = b ∧ x.p.a1 = c ∧ x.p.a2 = d ∧ x.p.a3 = e) ↔ x = ⟨a, ⟨b, c, d, e⟩⟩ := by
  obtain ⟨t, ⟨p, q, r, s⟩⟩ := x
  simp
theorem p4_eq {p : P4} {b c d e : Int} : (p.a0 = b ∧ p.a1 = c ∧ p.a2 = d ∧ p.a3 = e) ↔ p = ⟨b, c, d, e⟩ := by
  obtain ⟨p, q, r, s⟩ := p
  simp
theorem faceOk_noF {g : Glu} {t f : Nat} (h : fAt g t f = noF) : faceOk g t f = true := faceOk_iff.2 (.inl h)
theorem faceOk_bad {g : Glu} {t f : Nat} (h : fAt g t f ≠ noF) (h2 : ¬ FaceOk g t f) : faceOk g t f = false := by
  by_cases ho : faceOk g t f = true
  · rcases faceOk_iff.1 ho with e | e
    · exact absurd e h
    · exact absurd e h2
  · simpa using ho
def ChkI (g : Glu) (j : Nat) (s : Bool) : Prop := if s then okG g = false else facesTo g j = true
def errC (s : Bool) : Int := if s then 7 else 0
theorem ChkI.next {g : Glu} {t f : Nat} (hf : f < 4) (h : facesTo g (4 * t + f) = true) (h2 : faceOk g t f = true) : ChkI g (4 * t + f + 1) false := by
  show facesTo g (4 * t + f + 1) = true
  rw [facesTo_succ, h, show (4 * t + f) / 4 = t by omega, show (4 * t + f) % 4 = f by omega, h2]; rfl
theorem ChkI.stop {g : Glu} {t f : Nat} (ht : t < g.length) (hf : f < 4) (h : fAt g t f ≠ noF) (h2 : ¬ FaceOk g t f) (j : Nat) : ChkI g j true := not_okG ht hf (faceOk_bad h h2)
theorem ChkI.done {g : Glu} (hl : g.length ≤ 1000) (h : ChkI g (4 * g.length) false) : chkG g = 0 := by
  have h : facesTo g (4 * g.length) = true := h
  rw [chkG, okG, h, decide_eq_true hl]; rfl
theorem chkG_bad {g : Glu} (h : okG g = false) : chkG g = 7 := by rw [chkG, h]; rfl
theorem chkG_big {g : Glu} (h : 1000 < g.length) : chkG g = 7 := chkG_bad (by rw [okG, decide_eq_false (by omega)]; rfl)
theorem chkG_ok {g : Glu} (h : okG g = true) : chkG g = 0 := by rw [chkG, h]; rfl
end Go.V
/- Gluings: steps of the searches, as the loops carry them out. -/
namespace Go.V
open Go
theorem ttV_fAt (g : Glu) (t : Nat) {f : Nat} (hf : f < 4) : (#[iv (tAt g t).f0.tet, iv (tAt g t).f0.p.a0, iv (tAt g t).f0.p.a1, iv (tAt g t).f0.p.a2, iv (tAt g t).f0.p.a3, iv (tAt g t).f1.tet, iv (tAt g t).f1.p.a0, iv (tAt g t).f1.p.a1, iv (tAt g t).f1.p.a2, iv (tAt g t).f1.p.a3,
   iv (tAt g t).f2.tet, iv (tAt g t).f2.p.a0, iv (tAt g t).f2.p.a1, iv (tAt g t).f2.p.a2, iv (tAt g t).f2.p.a3, iv (tAt g t).f3.tet, iv (tAt g t).f3.p.a0, iv (tAt g t).f3.p.a1, iv (tAt g t).f3.p.a2, iv (tAt g t).f3.p.a3] : Array Value).extract (((f : Nat) : Int).toNat * 5) (((f : Nat) : Int).toNat * 5 + 5) =
   #[iv (fAt g t f).tet, iv (fAt g t f).p.a0, iv (fAt g t f).p.a1, iv (fAt g t f).p.a2, iv (fAt g t f).p.a3] := ttV_part (tAt g t) hf
def nints (l : List Nat) : List Value := ints (l.map Int.ofNat)
theorem nints_get {l : List Nat} {i : Nat} {u : Nat} (h : l[i]? = some u) : (nints l)[i * 1]? = some (iv u) := by
  rw [nints]; exact ints_get (by simp [h])
theorem nints_snoc (l : List Nat) (u : Nat) : nints l ++ [iv (u : Int)] = nints (l ++ [u]) := by
  simp only [nints, List.map_append, List.map_cons, List.map_nil]
  exact ints_snoc _ _
theorem pFace_pre {g : Glu} {n : Int} {t f : Nat} {s : BSt} {i u : Nat} (h : s.2[i]? = some u) : (pFace g n t f s).2[i]? = some u := by
  rw [pFace]
  split
  · show (s.2 ++ _)[i]? = _
    rw [List.getElem?_append_left (List.getElem?_eq_some_iff.1 h).1]; exact h
  · exact h
theorem pTo_pre {g : Glu} {n : Int} {t : Nat} {s : BSt} {i u : Nat} (h : s.2[i]? = some u) : ∀ f, (pTo g n t s f).2[i]? = some u
  | 0 => h
  | f + 1 => pFace_pre (pTo_pre h f)
theorem pBfs_step {g : Glu} {n : Int} {k i u : Nat} {s : BSt} (h : s.2[i]? = some u) : pBfs g n (k + 1) i s = pBfs g n k (i + 1) (pTo g n u s 4) := by
  have hi : i < s.2.length := (List.getElem?_eq_some_iff.1 h).1
  rw [pBfs, if_pos hi, List.getD_eq_getElem?_getD, h]; rfl
theorem pFace_go {g : Glu} {n : Int} {t f : Nat} {s : BSt} (h : 0 ≤ (fAt g t f).tet) (h2 : s.1.getD (fAt g t f).tet.toNat 0 < 0) : pFace g n t f s = (s.1.set (fAt g t f).tet.toNat n, s.2 ++ [(fAt g t f).tet.toNat]) := by rw [pFace, if_pos ⟨h, h2⟩]
theorem pFace_no {g : Glu} {n : Int} {t f : Nat} {s : BSt} (h : ¬ (0 ≤ (fAt g t f).tet ∧ s.1.getD (fAt g t f).tet.toNat 0 < 0)) : pFace g n t f s = s := by rw [pFace, if_neg h]
theorem pAll_keep {g : Glu} {t : Nat} (h : 0 ≤ (pAll g t).1.getD t 0) : pAll g (t + 1) = pAll g t := by rw [pAll, pNext, if_pos h]
theorem pAll_new {g : Glu} {t : Nat} (h : ¬ 0 ≤ (pAll g t).1.getD t 0) : pAll g (t + 1) = ((pBfs g (pAll g t).2 g.length 0 ((pAll g t).1.set t (pAll g t).2, [t])).1, (pAll g t).2 + 1) := by rw [pAll, pNext, if_neg h]
theorem oFace_pre {g : Glu} {t f : Nat} {s s' : BSt} {i u : Nat} (h : s.2[i]? = some u) (he : oFace g t f s = some s') : s'.2[i]? = some u := by
  rw [oFace] at he
  split at he
  · cases he; exact h
  · split at he
    · cases he
      show (s.2 ++ _)[i]? = _
      rw [List.getElem?_append_left (List.getElem?_eq_some_iff.1 h).1]; exact h
    · split at he
      · cases he; exact h
      · cases he
theorem oTo_pre {g : Glu} {t : Nat} {s : BSt} {i u : Nat} (h : s.2[i]? = some u) : ∀ (f : Nat) {s' : BSt}, oTo g t s f = some s' → s'.2[i]? = some u
  | 0, _, he => by cases he; exact h
  | f + 1, s', he => by
    rw [oTo] at he
    obtain ⟨s1, h1, h2⟩ := Option.bind_eq_some_iff.1 he
    exact oFace_pre (oTo_pre h f h1) h2
theorem oTo_snoc {g : Glu} {t f : Nat} {s s1 s2 : BSt} (h : oTo g t s f = some s1) (h2 : oFace g t f s1 = some s2) : oTo g t s (f + 1) = some s2 := by rw [oTo, h]; exact h2
theorem oTo_none {g : Glu} {t f : Nat} {s s1 : BSt} (h : oTo g t s f = some s1) (h2 : oFace g t f s1 = none) : ∀ d, oTo g t s (f + 1 + d) = none
  | 0 => by rw [Nat.add_zero, oTo, h]; exact h2
  | d + 1 => by rw [← Nat.add_assoc, oTo, oTo_none h h2 d]; rfl
theorem oTo_none4 {g : Glu} {t f : Nat} {s s1 : BSt} (hf : f < 4) (h : oTo g t s f = some s1) (h2 : oFace g t f s1 = none) : oTo g t s 4 = none := by
  have := oTo_none h h2 (3 - f)
  rwa [show f + 1 + (3 - f) = 4 by omega] at this
theorem oBfs_step {g : Glu} {k i u : Nat} {s : BSt} (h : s.2[i]? = some u) : oBfs g (k + 1) i s = (oTo g u s 4).bind (oBfs g k (i + 1)) := by
  have hi : i < s.2.length := (List.getElem?_eq_some_iff.1 h).1
  rw [oBfs, if_pos hi, List.getD_eq_getElem?_getD, h]; rfl
theorem oFace_free {g : Glu} {t f : Nat} {s : BSt} (h : (fAt g t f).tet < 0) : oFace g t f s = some s := by rw [oFace, if_pos h]
theorem oFace_new {g : Glu} {t f : Nat} {s : BSt} (h : ¬ (fAt g t f).tet < 0) (h0 : s.1.getD (fAt g t f).tet.toNat 0 = 0) : oFace g t f s = some (s.1.set (fAt g t f).tet.toNat (-sgnP (fAt g t f).p * s.1.getD t 0), s.2 ++ [(fAt g t f).tet.toNat]) := by rw [oFace, if_neg h, if_pos h0]
theorem oFace_same {g : Glu} {t f : Nat} {s : BSt} (h : ¬ (fAt g t f).tet < 0) (h0 : s.1.getD (fAt g t f).tet.toNat 0 ≠ 0) (h1 : s.1.getD (fAt g t f).tet.toNat 0 = -sgnP (fAt g t f).p * s.1.getD t 0) : oFace g t f s = some s := by rw [oFace, if_neg h, if_neg h0, if_pos h1]
theorem oFace_bad {g : Glu} {t f : Nat} {s : BSt} (h : ¬ (fAt g t f).tet < 0) (h0 : s.1.getD (fAt g t f).tet.toNat 0 ≠ 0) (h1 : s.1.getD (fAt g t f).tet.toNat 0 ≠ -sgnP (fAt g t f).p * s.1.getD t 0) : oFace g t f s = none := by rw [oFace, if_neg h, if_neg h0, if_neg h1]
theorem oAll_keep {g : Glu} {t : Nat} {out : List Int} (h : oAll g t = some out) (h0 : out.getD t 0 ≠ 0) : oAll g (t + 1) = some out := by rw [oAll, h]; show oNext g t out = _; rw [oNext, if_pos h0]
theorem oAll_new {g : Glu} {t : Nat} {out : List Int} (h : oAll g t = some out) (h0 : ¬ out.getD t 0 ≠ 0) : oAll g (t + 1) = (oBfs g g.length 0 (out.set t 1, [t])).map Prod.fst := by rw [oAll, h]; show oNext g t out = _; rw [oNext, if_neg h0]
theorem oAll_none {g : Glu} {t : Nat} (h : oAll g t = none) : ∀ d, oAll g (t + d) = none
  | 0 => h
  | d + 1 => by rw [← Nat.add_assoc, oAll, oAll_none h d]; rfl
theorem oriG_none {g : Glu} {t : Nat} (ht : t ≤ g.length) (h : oAll g t = none) : oriG g = none := by
  have := oAll_none h (g.length - t)
  rwa [show t + (g.length - t) = g.length by omega] at this
noncomputable def oriV (g : Glu) (b : Nat) : Value := match oriG g with
  | some _ => .tuple #[.slice (some ⟨b, 0, none⟩) g.length g.length, .bool true, iv 0]
  | none => .tuple #[.slice none 0 0, .bool false, iv 0]
noncomputable def oriH (g : Glu) (b : Nat) : List HL := match oriG g with
  | some out => [HL.own 3 1 (.slice (some ⟨b, 0, none⟩) g.length g.length) g.length (ints out)]
  | none => []
theorem oriV_some {g : Glu} {out : List Int} (h : oriG g = some out) (b : Nat) : oriV g b = .tuple #[.slice (some ⟨b, 0, none⟩) g.length g.length, .bool true, iv 0] := by rw [oriV, h]
theorem oriV_none {g : Glu} (h : oriG g = none) (b : Nat) : oriV g b = .tuple #[.slice none 0 0, .bool false, iv 0] := by rw [oriV, h]
theorem oriH_some {g : Glu} {out : List Int} (h : oriG g = some out) (b : Nat) : oriH g b = [HL.own 3 1 (.slice (some ⟨b, 0, none⟩) g.length g.length) g.length (ints out)] := by rw [oriH, h]
theorem oriH_none {g : Glu} (h : oriG g = none) (b : Nat) : oriH g b = [] := by rw [oriH, h]
theorem getD_get' {xs : List Int} {m : Nat} (h : m < xs.length) : xs[m]? = some (xs.getD m 0) := by simp [List.getD_eq_getElem?_getD, h]
theorem getD_nat {xs : List Nat} {m : Nat} (h : m < xs.length) : xs[m]? = some (xs.getD m 0) := by simp [List.getD_eq_getElem?_getD, h]
end Go.V
/- Gluings: rows that are changed face by face; gluings that a call has made. -/
namespace Go.V
open Go
def ttA (t : Tt) : Array Value := #[iv t.f0.tet, iv t.f0.p.a0, iv t.f0.p.a1, iv t.f0.p.a2, iv t.f0.p.a3, iv t.f1.tet, iv t.f1.p.a0, iv t.f1.p.a1, iv t.f1.p.a2, iv t.f1.p.a3,
   iv t.f2.tet, iv t.f2.p.a0, iv t.f2.p.a1, iv t.f2.p.a2, iv t.f2.p.a3, iv t.f3.tet, iv t.f3.p.a0, iv t.f3.p.a1, iv t.f3.p.a2, iv t.f3.p.a3]
def Tt.setF (t : Tt) (f : Nat) (x : Fc) : Tt := match f with
  | 0 => { t with f0 := x }
  | 1 => { t with f1 := x }
  | 2 => { t with f2 := x }
  | _ => { t with f3 := x }
theorem setF_at (t : Tt) {f k : Nat} (x : Fc) (hf : f < 4) (hk : k < 4) : (t.setF f x).at k = if f = k then x else t.at k := by
  match f, hf, k, hk with
  | 0, _, 0, _ => rfl
  | 0, _, 1, _ => rfl
  | 0, _, 2, _ => rfl
  | 0, _, 3, _ => rfl
  | 1, _, 0, _ => rfl
  | 1, _, 1, _ => rfl
  | 1, _, 2, _ => rfl
  | 1, _, 3, _ => rfl
  | 2, _, 0, _ => rfl
  | 2, _, 1, _ => rfl
  | 2, _, 2, _ => rfl
  | 2, _, 3, _ => rfl
  | 3, _, 0, _ => rfl
  | 3, _, 1, _ => rfl
  | 3, _, 2, _ => rfl
  | 3, _, 3, _ => rfl
theorem Tt.ext_at {s t : Tt} (h : ∀ f, f < 4 → s.at f = t.at f) : s = t := by
  obtain ⟨a, b, c, d⟩ := s
  obtain ⟨a', b', c', d'⟩ := t
  have h0 := h 0 (by decide); have h1 := h 1 (by decide); have h2 := h 2 (by decide); have h3 := h 3 (by decide)
  simp only [Tt.at] at h0 h1 h2 h3
  subst h0 h1 h2 h3; rfl
/-- The first f faces are changed. -/
def chTo (h : Fc → Fc) (x : Tt) : Nat → Tt
  | 0 => x
  | f + 1 => (chTo h x f).setF f (h (x.at f))
theorem chTo_at (h : Fc → Fc) (x : Tt) : ∀ (f : Nat), f ≤ 4 → ∀ k, k < 4 → (chTo h x f).at k = if k < f then h (x.at k) else x.at k
  | 0, _, k, _ => by simp [chTo]
  | f + 1, hf, k, hk => by
    rw [chTo, setF_at _ _ (by omega) hk, chTo_at h x f (by omega) k hk]
    by_cases e : f = k
    · subst e; simp
    · by_cases e2 : k < f
      · simp [e, e2, show k < f + 1 by omega]
      · simp [e, e2, show ¬ k < f + 1 by omega]
theorem mapF_at (x : Tt) (h : Fc → Fc) {k : Nat} (hk : k < 4) : (mapF x h).at k = h (x.at k) := by
  match k, hk with
  | 0, _ => rfl
  | 1, _ => rfl
  | 2, _ => rfl
  | 3, _ => rfl
theorem chTo_four (h : Fc → Fc) (x : Tt) : chTo h x 4 = mapF x h := Tt.ext_at fun f hf => by rw [chTo_at h x 4 (Nat.le_refl 4) f hf, if_pos hf, mapF_at x h hf]
theorem chTo_cur (h : Fc → Fc) (x : Tt) {f : Nat} (hf : f < 4) : (chTo h x f).at f = x.at f := by rw [chTo_at h x f (by omega) f hf, if_neg (by omega)]
theorem nth_ttA (t : Tt) {f : Nat} (hf : f < 4) : nth (ttA t).toList (0 + f * 5 + 0) = some (iv (t.at f).tet) := by
  match f, hf with
  | 0, _ => rfl
  | 1, _ => rfl
  | 2, _ => rfl
  | 3, _ => rfl
theorem nth_chTo (h : Fc → Fc) (x : Tt) {f : Nat} (hf : f < 4) : nth (ttA (chTo h x f)).toList (0 + f * 5 + 0) = some (iv (x.at f).tet) := by rw [nth_ttA _ hf, chTo_cur h x hf]
/-- The number of the tetrahedron is written. -/
theorem ttA_tet (t : Tt) {f : Nat} (hf : f < 4) (y : Int) : (ttA t).setIfInBounds (0 + f * 5 + 0) (iv y) = ttA (t.setF f ⟨y, (t.at f).p⟩) := by
  match f, hf with
  | 0, _ => rfl
  | 1, _ => rfl
  | 2, _ => rfl
  | 3, _ => rfl
theorem chTo_tet {h : Fc → Fc} {x : Tt} {f : Nat} {y : Int} (hf : f < 4) (e : h (x.at f) = ⟨y, (x.at f).p⟩) : (ttA (chTo h x f)).setIfInBounds (0 + f * 5 + 0) (iv y) = ttA (chTo h x (f + 1)) := by
  rw [ttA_tet _ hf, chTo_cur h x hf, chTo, e]
theorem chTo_keep {h : Fc → Fc} {x : Tt} {f : Nat} (hf : f < 4) (e : h (x.at f) = x.at f) : chTo h x (f + 1) = chTo h x f := Tt.ext_at fun k hk => by
  rw [chTo, setF_at _ _ hf hk]
  by_cases e2 : f = k
  · subst e2; rw [if_pos rfl, e, chTo_cur h x hf]
  · rw [if_neg e2]
/-- A face is written whole. -/
theorem ttA_fc (t : Tt) {f : Nat} (hf : f < 4) (y : Fc) : putAll (ttA t) (0 + f * 5) [iv y.tet, iv y.p.a0, iv y.p.a1, iv y.p.a2, iv y.p.a3] = ttA (t.setF f y) := by
  match f, hf with
  | 0, _ => rfl
  | 1, _ => rfl
  | 2, _ => rfl
  | 3, _ => rfl
abbrev zA20 : Array Value := #[.int .i64 0, .int .i64 0, .int .i64 0, .int .i64 0, .int .i64 0, .int .i64 0, .int .i64 0, .int .i64 0, .int .i64 0, .int .i64 0, .int .i64 0, .int .i64 0, .int .i64 0, .int .i64 0, .int .i64 0, .int .i64 0, .int .i64 0, .int .i64 0, .int .i64 0, .int .i64 0]
theorem putAll_list : ∀ (vs : List Value) (cs : Array Value) (k : Nat), k + vs.length ≤ cs.size → (putAll cs k vs).toList = cs.toList.take k ++ vs ++ cs.toList.drop (k + vs.length)
  | [], cs, k, _ => by simp [putAll]
  | v :: r, cs, k, h => by
    simp only [List.length_cons] at h
    rw [putAll, putAll_list r _ _ (by simp; omega)]
    have hk : k < cs.toList.length := by simp; omega
    rw [Array.toList_setIfInBounds, List.length_cons, show k + (r.length + 1) = k + 1 + r.length by omega, List.take_add_one, List.take_set, List.drop_set, if_pos (by omega)]
    rw [List.set_eq_of_length_le (by simp; omega)]
    have e : (cs.toList.set k v)[k]? = some v := by rw [List.getElem?_set_self hk]
    rw [e]
    simp
theorem putAll_whole {cs : Array Value} {vs : List Value} (h : vs.length = cs.size) : putAll cs 0 vs = vs.toArray := by
  apply Array.toList_inj.1
  rw [putAll_list vs cs 0 (by omega)]
  simp [h]
theorem putT (t : Tt) : putAll zA20 0 (ttV t).cells.toList = ttA t := putAll_whole (vs := encT t) (cs := zA20) rfl
def ownG (g : Option Addr × Nat) (d : Glu) : HL := HL.own 35 20 (.slice g.1 d.length g.2) d.length (d.flatMap encT)
theorem flatT_snoc (g : Glu) (x : Tt) : g.flatMap encT ++ encT x = (g ++ [x]).flatMap encT := by simp
theorem encT_one (g : Glu) : (g.flatMap encT).all Value.oneCell' = true := by
  rw [List.all_eq_true]
  intro v hv
  obtain ⟨t, _, ht⟩ := List.mem_flatMap.1 hv
  simp only [encT, List.mem_cons, List.not_mem_nil, or_false] at ht
  rcases ht with rfl | rfl | rfl | rfl | rfl | rfl | rfl | rfl | rfl | rfl | rfl | rfl | rfl | rfl | rfl | rfl | rfl | rfl | rfl | rfl <;> rfl
theorem GluAt.cells {w : World} {base : Option Addr} {A : Addr} {g : Glu} (h : GluAt w base A g) : Cells w A (g.flatMap encT) := fun j v hj => by
  rw [flat_get_inv encT_len (by decide)] at hj
  obtain ⟨t, ht, hv⟩ := Option.bind_eq_some_iff.1 hj
  have := h.cell _ t ht _ v hv
  rw [add_add] at this
  rwa [show j / 20 * 20 + j % 20 = j by omega] at this
theorem GluAt.of_cells {w : World} {base : Option Addr} {A : Addr} {g : Glu} (hb : 0 < g.length → base = some A) (hc : Cells w A (g.flatMap encT)) (hl : g.length ≤ 9223372036854775807) : GluAt w base A g :=
  ⟨hb, fun i x hi j v hj => by rw [add_add]; exact hc _ v (flat_get encT_len hi hj), hl⟩
theorem GluAt.of_ownG {w : World} {q : Option Addr × Nat} {g : Glu} (hl : g.length ≤ 9223372036854775807) (ho : (ownG q g).holds w) : GluAt w q.1 (vaddr (.slice q.1 g.length q.2)) g := by
  have ho' : w.ownsRow 0 35 20 (.slice q.1 g.length q.2) g.length (g.flatMap encT) := ho
  refine GluAt.of_cells (fun h0 => ?_) (own_all ho') hl
  obtain ⟨b, c, e, hb⟩ := own_shape ho'
  simp only [Value.slice.injEq] at e
  exact e.1.trans (hb h0)
theorem okG_tet {g : Glu} (h : okG g = true) {t f : Nat} (ht : t < g.length) (hf : f < 4) : -1 ≤ (fAt g t f).tet ∧ (fAt g t f).tet < g.length := by
  rcases okG_cases h ht hf with e | e
  · rw [e]; exact ⟨by decide, by show (-1 : Int) < _; omega⟩
  · exact ⟨by have := e.lo; omega, e.hi⟩
end Go.V
/- Gluings: faces that are written one after the other. -/
namespace Go.V
open Go
def setFc (d : Glu) (t f : Nat) (x : Fc) : Glu := d.set t ((tAt d t).setF f x)
@[simp] theorem setFc_len (d : Glu) (t f : Nat) (x : Fc) : (setFc d t f x).length = d.length := by simp [setFc]
theorem tAt_set {d : Glu} {t u : Nat} {x : Tt} (ht : t < d.length) : tAt (d.set t x) u = if t = u then x else tAt d u := by
  simp only [tAt, List.getD_eq_getElem?_getD]
  by_cases e : t = u
  · subst e; simp [ht]
  · rw [if_neg e, List.getElem?_set_ne e]
theorem fAt_setFc {d : Glu} {t f u k : Nat} {x : Fc} (ht : t < d.length) (hf : f < 4) (hk : k < 4) : fAt (setFc d t f x) u k = if t = u ∧ f = k then x else fAt d u k := by
  rw [fAt, setFc, tAt_set ht]
  by_cases e : t = u
  · subst e
    rw [if_pos rfl, setF_at _ _ hf hk]
    by_cases e2 : f = k <;> simp [e2, fAt]
  · simp [e, fAt]
theorem Glu.ext_fAt {a b : Glu} (hl : a.length = b.length) (h : ∀ t f, t < a.length → f < 4 → fAt a t f = fAt b t f) : a = b := by
  apply List.ext_getElem?
  intro t
  rcases Nat.lt_or_ge t a.length with ht | ht
  · rw [tAt_get ht, tAt_get (by omega), Tt.ext_at (h t · ht)]
  · rw [List.getElem?_eq_none ht, List.getElem?_eq_none (by omega)]
theorem setFc_same {d : Glu} {t f : Nat} (ht : t < d.length) (hf : f < 4) : setFc d t f (fAt d t f) = d :=
  Glu.ext_fAt (by simp) fun u k hu hk => by
    rw [fAt_setFc ht hf hk]
    by_cases e : t = u ∧ f = k
    · rw [if_pos e, e.1, e.2]
    · rw [if_neg e]
/-- The faces ahead of j are changed. -/
def cgTo (d : Glu) (h : Nat → Nat → Fc → Fc) : Nat → Glu
  | 0 => d
  | j + 1 => setFc (cgTo d h j) (j / 4) (j % 4) (h (j / 4) (j % 4) (fAt d (j / 4) (j % 4)))
@[simp] theorem cgTo_len (d : Glu) (h : Nat → Nat → Fc → Fc) : ∀ j, (cgTo d h j).length = d.length
  | 0 => rfl
  | j + 1 => by rw [cgTo, setFc_len, cgTo_len d h j]
/-- All faces are changed. -/
def cgAll (d : Glu) (h : Nat → Nat → Fc → Fc) : Glu := (List.range d.length).map fun t => ⟨h t 0 (fAt d t 0), h t 1 (fAt d t 1), h t 2 (fAt d t 2), h t 3 (fAt d t 3)⟩
@[simp] theorem cgAll_len (d : Glu) (h : Nat → Nat → Fc → Fc) : (cgAll d h).length = d.length := by simp [cgAll]
theorem cgAll_at (d : Glu) (h : Nat → Nat → Fc → Fc) {t f : Nat} (ht : t < d.length) (hf : f < 4) : fAt (cgAll d h) t f = h t f (fAt d t f) := by
  have e : tAt (cgAll d h) t = ⟨h t 0 (fAt d t 0), h t 1 (fAt d t 1), h t 2 (fAt d t 2), h t 3 (fAt d t 3)⟩ := tAt_eq (by simp [cgAll, ht])
  rw [fAt, e]
  match f, hf with
  | 0, _ => rfl
  | 1, _ => rfl
  | 2, _ => rfl
  | 3, _ => rfl
/-- Two faces in each round: those of two copies. -/
def cg2To (d : Glu) (n : Nat) (h : Nat → Nat → Fc → Fc) : Nat → Glu
  | 0 => d
  | j + 1 => setFc (setFc (cg2To d n h j) (j / 4) (j % 4) (h (j / 4) (j % 4) (fAt d (j / 4) (j % 4)))) (j / 4 + n) (j % 4) (h (j / 4 + n) (j % 4) (fAt d (j / 4 + n) (j % 4)))
@[simp] theorem cg2To_len (d : Glu) (n : Nat) (h : Nat → Nat → Fc → Fc) : ∀ j, (cg2To d n h j).length = d.length
  | 0 => rfl
  | j + 1 => by rw [cg2To, setFc_len, setFc_len, cg2To_len d n h j]
theorem cg2To_at (d : Glu) {n : Nat} (hn : d.length = 2 * n) (h : Nat → Nat → Fc → Fc) : ∀ j, j ≤ 4 * n → ∀ t f, f < 4 → fAt (cg2To d n h j) t f = if (t < n ∧ 4 * t + f < j) ∨ (n ≤ t ∧ 4 * (t - n) + f < j) then h t f (fAt d t f) else fAt d t f
  | 0, _, t, f, _ => by simp [cg2To]
  | j + 1, hj, t, f, hf => by
    rw [cg2To, fAt_setFc (by rw [setFc_len, cg2To_len]; omega) (by omega) hf, fAt_setFc (by rw [cg2To_len]; omega) (by omega) hf, cg2To_at d hn h j (by omega) t f hf]
    by_cases e : j / 4 + n = t ∧ j % 4 = f
    · obtain ⟨rfl, rfl⟩ := e
      rw [if_pos ⟨rfl, rfl⟩, if_pos (by right; omega)]
    · rw [if_neg e]
      by_cases e2 : j / 4 = t ∧ j % 4 = f
      · obtain ⟨rfl, rfl⟩ := e2
        rw [if_pos ⟨rfl, rfl⟩, if_pos (by left; omega)]
      · rw [if_neg e2]
        by_cases e3 : (t < n ∧ 4 * t + f < j) ∨ (n ≤ t ∧ 4 * (t - n) + f < j)
        · rw [if_pos e3, if_pos (by omega)]
        · rw [if_neg e3, if_neg (by omega)]
theorem cg2To_all (d : Glu) {n : Nat} (hn : d.length = 2 * n) (h : Nat → Nat → Fc → Fc) : cg2To d n h (4 * n) = cgAll d h :=
  Glu.ext_fAt (by simp) fun t f ht hf => by
    rw [cg2To_len] at ht
    rw [cg2To_at d hn h _ (Nat.le_refl _) t f hf, if_pos (by omega), cgAll_at d h ht hf]
theorem cg2To_step (d : Glu) (n : Nat) (h : Nat → Nat → Fc → Fc) (t : Nat) {f : Nat} (hf : f < 4) : cg2To d n h (4 * t + f + 1) = setFc (setFc (cg2To d n h (4 * t + f)) t f (h t f (fAt d t f))) (t + n) f (h (t + n) f (fAt d (t + n) f)) := by
  rw [cg2To, show (4 * t + f) / 4 = t by omega, show (4 * t + f) % 4 = f by omega]
theorem cg2To_cur {d : Glu} {n : Nat} (hn : d.length = 2 * n) {h : Nat → Nat → Fc → Fc} {t f : Nat} (ht : t < n) (hf : f < 4) : fAt (cg2To d n h (4 * t + f)) t f = fAt d t f ∧ fAt (cg2To d n h (4 * t + f)) (t + n) f = fAt d (t + n) f := by
  constructor
  · rw [cg2To_at d hn h _ (by omega) t f hf, if_neg (by omega)]
  · rw [cg2To_at d hn h _ (by omega) (t + n) f hf, if_neg (by omega)]
theorem cg2To_keep {d : Glu} {n : Nat} (hn : d.length = 2 * n) {h : Nat → Nat → Fc → Fc} {t f : Nat} (ht : t < n) (hf : f < 4) (e : h t f (fAt d t f) = fAt d t f) (e2 : h (t + n) f (fAt d (t + n) f) = fAt d (t + n) f) : cg2To d n h (4 * t + f + 1) = cg2To d n h (4 * t + f) := by
  obtain ⟨c1, c2⟩ := cg2To_cur (d := d) hn (h := h) ht hf
  rw [cg2To_step d n h t hf, e, e2, ← c1, setFc_same (by rw [cg2To_len]; omega) hf, ← c2, setFc_same (by rw [cg2To_len]; omega) hf]
theorem flatT_get {d : Glu} {t f j : Nat} {u : Value} (ht : t < d.length) (hf : f < 4) (h : (encF (fAt d t f))[j]? = some u) : (d.flatMap encT)[t * 20 + f * 5 + j]? = some u := by
  rw [Nat.add_assoc]
  exact flat_get encT_len (tAt_get ht) (encT_at _ hf h)
theorem setF_enc (x : Tt) {f : Nat} (hf : f < 4) (y : Fc) : ∀ i, i < 20 → (encT (x.setF f y))[i]? = if f * 5 ≤ i ∧ i < f * 5 + 5 then (encF y)[i - f * 5]? else (encT x)[i]? := fun i hi => by
  have hd : i = i / 5 * 5 + i % 5 := by omega
  have hk : i / 5 < 4 := by omega
  have hj : i % 5 < 5 := Nat.mod_lt _ (by decide)
  have e1 : (encT (x.setF f y))[i]? = (encF ((x.setF f y).at (i / 5)))[i % 5]? := by
    have hl : i % 5 < (encF ((x.setF f y).at (i / 5))).length := by rw [encF_len]; exact hj
    rw [List.getElem?_eq_getElem hl]
    have := encT_at (x.setF f y) (j := i % 5) hk (List.getElem?_eq_getElem hl)
    rwa [← hd] at this
  have e2 : (encT x)[i]? = (encF (x.at (i / 5)))[i % 5]? := by
    have hl : i % 5 < (encF (x.at (i / 5))).length := by rw [encF_len]; exact hj
    rw [List.getElem?_eq_getElem hl]
    have := encT_at x (j := i % 5) hk (List.getElem?_eq_getElem hl)
    rwa [← hd] at this
  rw [e1, e2, setF_at _ _ hf hk]
  by_cases e : f = i / 5
  · subst e
    rw [if_pos rfl, if_pos (by omega), show i - i / 5 * 5 = i % 5 by omega]
  · rw [if_neg e, if_neg (by omega)]
/-- A face is written whole. -/
theorem setFc_flat {d : Glu} {t f : Nat} (ht : t < d.length) (hf : f < 4) (y : Fc) : ∀ i, ((setFc d t f y).flatMap encT)[i]? = if t * 20 + f * 5 ≤ i ∧ i < t * 20 + f * 5 + 5 then (encF y)[i - (t * 20 + f * 5)]? else (d.flatMap encT)[i]? := fun i => by
  rw [setFc, flat_set encT_len (by decide) _ ht]
  by_cases e : t * 20 ≤ i ∧ i < t * 20 + 20
  · rw [if_pos e, setF_enc _ hf y _ (by omega)]
    by_cases e2 : f * 5 ≤ i - t * 20 ∧ i - t * 20 < f * 5 + 5
    · rw [if_pos e2, if_pos (by omega), show i - t * 20 - f * 5 = i - (t * 20 + f * 5) by omega]
    · rw [if_neg e2, if_neg (by omega)]
      have hl : i - t * 20 < (encT (tAt d t)).length := by rw [encT_len]; omega
      have := flat_get encT_len (tAt_get ht) (List.getElem?_eq_getElem hl)
      rw [show t * 20 + (i - t * 20) = i by omega] at this
      rw [this, List.getElem?_eq_getElem hl]
  · rw [if_neg e, if_neg (by omega)]
/-- The number of a face's tetrahedron is written. -/
theorem setTet_flat {d : Glu} {t f : Nat} (ht : t < d.length) (hf : f < 4) (y : Int) : (d.flatMap encT).set (t * 20 + f * 5 + 0) (iv y) = (setFc d t f ⟨y, (fAt d t f).p⟩).flatMap encT := by
  apply List.ext_getElem?
  intro i
  rw [setFc_flat ht hf, List.getElem?_set]
  have hL := flat_len encT_len d
  by_cases e : t * 20 + f * 5 + 0 = i
  · subst e
    rw [if_pos rfl, if_pos (by rw [hL]; omega), if_pos (by omega)]
    simp [encF]
  · rw [if_neg e]
    by_cases e2 : t * 20 + f * 5 ≤ i ∧ i < t * 20 + f * 5 + 5
    · rw [if_pos e2]
      have hj : i - (t * 20 + f * 5) < (encF (fAt d t f)).length := by rw [encF_len]; omega
      have h1 := flatT_get ht hf (List.getElem?_eq_getElem hj)
      rw [show t * 20 + f * 5 + (i - (t * 20 + f * 5)) = i by omega] at h1
      rw [h1, ← List.getElem?_eq_getElem hj]
      obtain ⟨k, hk⟩ : ∃ k, i - (t * 20 + f * 5) = k + 1 := ⟨i - (t * 20 + f * 5) - 1, by omega⟩
      rw [hk]; simp [encF]
    · rw [if_neg e2]
def twH (n : Nat) (_ _ : Nat) (x : Fc) : Fc := if 0 ≤ x.tet ∧ sgnP x.p = 1 then ⟨(x.tet + n) % (2 * n), x.p⟩ else x
def dbH (n : Nat) (t _ : Nat) (x : Fc) : Fc := if x.tet < 0 then ⟨((t : Int) + n) % (2 * n), idP⟩ else x
def twoG (g : Glu) : Glu := cgAll (uniG g g) (twH g.length)
def dblG (g : Glu) : Glu := cgAll (uniG g g) (dbH g.length)
theorem uniG_len' (a b : Glu) : (uniG a b).length = a.length + b.length := by simp [uniG]
theorem uniG_lo {a b : Glu} {t f : Nat} (ht : t < a.length) : fAt (uniG a b) t f = fAt a t f := by
  have e : tAt (uniG a b) t = tAt a t := tAt_eq (by rw [uniG, List.getElem?_append_left ht]; exact tAt_get ht)
  rw [fAt, e, fAt]
theorem uniG_hi {a b : Glu} {t f : Nat} (ht : t < b.length) (hf : f < 4) : fAt (uniG a b) (t + a.length) f = shF a.length (fAt b t f) := by
  have e : tAt (uniG a b) (t + a.length) = mapF (tAt b t) (shF a.length) := tAt_eq (by
    rw [uniG, List.getElem?_append_right (by omega), List.getElem?_map, show t + a.length - a.length = t by omega, tAt_get ht]; rfl)
  rw [fAt, e, mapF_at _ _ hf]; rfl
theorem twoG_len (g : Glu) : (twoG g).length = 2 * g.length := by rw [twoG, cgAll_len, uniG_len']; omega
theorem dblG_len (g : Glu) : (dblG g).length = 2 * g.length := by rw [dblG, cgAll_len, uniG_len']; omega
end Go.V
/- Renumbered gluings; lists of permutations as arguments. -/
namespace Go.V
open Go
/-- A list of numbers lies in memory. -/
structure LisAt (w : World) (base : Option Addr) (A : Addr) (xs : List Int) : Prop where
  base : 0 < xs.length → base = some A
  cell : Cells w A (ints xs)
  len : xs.length ≤ 9223372036854775807
theorem LisAt.old {w w' : World} {base : Option Addr} {A : Addr} {xs : List Int} (h : LisAt w base A xs) (ho : Old Nil w w') : LisAt w' base A xs := ⟨h.base, fun j v hj => ho.cell (h.cell j v hj) (fun x => x), h.len⟩
theorem LisAt.sym {w w' : World} {L : List HL} {base : Option Addr} {A : Addr} {xs : List Int} (h : LisAt w base A xs) (hs : Sym w Nil L w') : LisAt w' base A xs := h.old hs.old
theorem LisAt.shape {w : World} {base : Option Addr} {A : Addr} {cap : Nat} {xs : List Int} (h : LisAt w base A xs) : Shape (lisV base cap xs) xs.length := shape_slice h.base
theorem LisAt.cells {w : World} {base : Option Addr} {A : Addr} {cap : Nat} {xs : List Int} (h : LisAt w base A xs) (n : Nat) : Cells w (vaddr (.slice base n cap)) (ints xs) := by
  rcases Nat.eq_zero_or_pos xs.length with h0 | h0
  · have e : xs = [] := List.length_eq_zero_iff.1 h0
    subst e
    intro j v hj; simp [ints] at hj
  · rw [h.base h0]; exact h.cell
structure PermsAt (w : World) (base : Option Addr) (A : Addr) (ps : List P4) : Prop where
  base : 0 < ps.length → base = some A
  cell : ∀ (i : Nat) (p : P4), ps[i]? = some p → Cells w (A.add (i * 4)) (encP p)
  len : ps.length ≤ 9223372036854775807
theorem PermsAt.old {w w' : World} {base : Option Addr} {A : Addr} {ps : List P4} (h : PermsAt w base A ps) (ho : Old Nil w w') : PermsAt w' base A ps :=
  ⟨h.base, fun i x hi j v hj => ho.cell (h.cell i x hi j v hj) (fun x => x), h.len⟩
theorem PermsAt.sym {w w' : World} {L : List HL} {base : Option Addr} {A : Addr} {ps : List P4} (h : PermsAt w base A ps) (hs : Sym w Nil L w') : PermsAt w' base A ps := h.old hs.old
theorem encP_get (p : P4) {k : Nat} (hk : k < 4) : (encP p)[k]? = some (iv (p.at k)) := by
  match k, hk with
  | 0, _ => rfl
  | 1, _ => rfl
  | 2, _ => rfl
  | 3, _ => rfl
theorem PermsAt.one {w : World} {base : Option Addr} {A : Addr} {ps : List P4} (h : PermsAt w base A ps) {i k : Nat} {p : P4} (hi : ps[i]? = some p) (hk : k < 4) : w.cell? ((A.add (i * 4)).add (k * 1)) = some (iv (p.at k)) := by
  rw [Nat.mul_one]; exact h.cell i p hi k _ (encP_get p hk)
theorem PermsAt.cells {w : World} {base : Option Addr} {A : Addr} {ps : List P4} (h : PermsAt w base A ps) : Cells w A (ps.flatMap encP) := fun j v hj => by
  rw [flat_get_inv encP_len (by decide)] at hj
  obtain ⟨t, ht, hv⟩ := Option.bind_eq_some_iff.1 hj
  have := h.cell _ t ht _ v hv
  rw [add_add] at this
  rwa [show j / 4 * 4 + j % 4 = j by omega] at this
def mtTo (xs : List Int) (n : Nat) : Nat → List Bool
  | 0 => List.replicate n false
  | i + 1 => (mtTo xs n i).set (xs.getD i 0).toNat true
def bkTo (xs : List Int) (n : Nat) : Nat → List Int
  | 0 => List.replicate n 0
  | i + 1 => (bkTo xs n i).set (xs.getD i 0).toNat i
def ordTo (xs : List Int) (n : Nat) : Nat → Bool
  | 0 => true
  | i + 1 => ordTo xs n i && decide (0 ≤ xs.getD i 0 ∧ xs.getD i 0 < n) && !(mtTo xs n i).getD (xs.getD i 0).toNat false
@[simp] theorem mtTo_len (xs : List Int) (n : Nat) : ∀ i, (mtTo xs n i).length = n
  | 0 => by simp [mtTo]
  | i + 1 => by simp [mtTo, mtTo_len xs n i]
@[simp] theorem bkTo_len (xs : List Int) (n : Nat) : ∀ i, (bkTo xs n i).length = n
  | 0 => by simp [bkTo]
  | i + 1 => by simp [bkTo, bkTo_len xs n i]
theorem getD_some {α : Type} {l : List α} {i : Nat} {y : α} (h : l[i]? = some y) (z : α) : l.getD i z = y := by rw [List.getD_eq_getElem?_getD, h]; rfl
theorem ordTo_le {xs : List Int} {n j : Nat} (h : ordTo xs n j = true) : ∀ {i}, i ≤ j → ordTo xs n i = true := by
  induction j with
  | zero =>
    intro i hi
    rw [show i = 0 by omega]; exact h
  | succ j ih =>
    intro i hi
    rcases Nat.lt_or_ge i (j + 1) with h1 | h1
    · refine ih ?_ (by omega)
      rw [ordTo, Bool.and_eq_true, Bool.and_eq_true] at h
      exact h.1.1
    · obtain rfl : i = j + 1 := by omega
      exact h
theorem ordTo_at {xs : List Int} {n i : Nat} (h : ordTo xs n n = true) (hi : i < n) : 0 ≤ xs.getD i 0 ∧ xs.getD i 0 < n := by
  have := ordTo_le h (show i + 1 ≤ n by omega)
  rw [ordTo, Bool.and_eq_true, Bool.and_eq_true] at this
  exact of_decide_eq_true this.1.2
theorem bkTo_bound (xs : List Int) (n : Nat) (hn : 0 < n) : ∀ i, i ≤ n → ∀ k, 0 ≤ (bkTo xs n i).getD k 0 ∧ (bkTo xs n i).getD k 0 < n
  | 0, _, k => by
    rw [bkTo, List.getD_eq_getElem?_getD, List.getElem?_replicate]
    split <;> (constructor <;> simp <;> omega)
  | i + 1, hi, k => by
    have h := bkTo_bound xs n hn i (by omega) k
    rw [List.getD_eq_getElem?_getD] at h
    rw [bkTo, List.getD_eq_getElem?_getD, List.getElem?_set]
    split
    · split
      · constructor <;> simp <;> omega
      · constructor <;> simp <;> omega
    · exact h
def pAt (ps : List P4) (i : Nat) : P4 := ps.getD i idP
theorem pAt_get {ps : List P4} {i : Nat} (h : i < ps.length) : ps[i]? = some (pAt ps i) := by rw [pAt, List.getD_eq_getElem?_getD, List.getElem?_eq_getElem h]; rfl
def bkI (xs : List Int) (n : Nat) (t : Int) : Int := (bkTo xs n n).getD t.toNat 0
def renF (xs : List Int) (ps : List P4) (n i : Nat) (x : Fc) : Fc :=
  if x.tet < 0 then noF else ⟨bkI xs n x.tet, compP (invP (pAt ps (bkI xs n x.tet).toNat)) (compP x.p (pAt ps i))⟩
def renH (g : Glu) (xs : List Int) (ps : List P4) (i f : Nat) : Fc := renF xs ps g.length i (fAt g (xs.getD i 0).toNat ((pAt ps i).at f).toNat)
def renRow (g : Glu) (xs : List Int) (ps : List P4) (i : Nat) : Tt := ⟨renH g xs ps i 0, renH g xs ps i 1, renH g xs ps i 2, renH g xs ps i 3⟩
def renG (g : Glu) (xs : List Int) (ps : List P4) : Glu := (List.range g.length).map (renRow g xs ps)
@[simp] theorem renG_len (g : Glu) (xs : List Int) (ps : List P4) : (renG g xs ps).length = g.length := by simp [renG]
def z4T : Tt := ⟨⟨0, zP⟩, ⟨0, zP⟩, ⟨0, zP⟩, ⟨0, zP⟩⟩
end Go.V
/- Gluings, permutations and lists as arguments: opened. -/
namespace Go.Proofs
open Go Go.V Go.ChangeShapes Go.WideShapes
set_option maxRecDepth 20000
section
variable {H : Type} {enc : TypeId × Value → H} {w : World} {base : Nat} {sp : Nat → Bool} {held : Bool}
theorem some_of_len {α : Type} {xs : List α} {n i : Nat} (h : xs.length = n) (hi : i < n) : ∃ y, xs[i]? = some y := ⟨xs[i]'(by omega), by simp⟩
theorem in64_of_wf {n : Int} (h : (Lit.int .i64 n).wf = true) : In64 n := by
  simp [Lit.wf, IntKind.min, IntKind.max, IntKind.bits, IntKind.signed] at h
  exact ⟨by omega, by omega⟩
theorem open_int3 {n : Nat} {cs : List Value} {y : DataW H × List MemPlace} (h : DataW.trod enc Tryz.prog w base sp held n 3 cs = some y) : ∃ k : Int, cs = [iv k] ∧ In64 k := by
  obtain ⟨k, e, _, hw⟩ := DataW.trod_int Tryz.underlying3 h
  exact ⟨k, e, in64_of_wf hw⟩
theorem c3 : Tryz.prog.cellsOf 3 = 1 := by kernel_rfl
theorem c32 : Tryz.prog.cellsOf 32 = 4 := by kernel_rfl
theorem c34 : Tryz.prog.cellsOf 34 = 5 := by kernel_rfl
theorem c35 : Tryz.prog.cellsOf 35 = 20 := by kernel_rfl
theorem c22 : Tryz.prog.cellsOf 22 = 1 := by kernel_rfl
theorem c24 : Tryz.prog.cellsOf 24 = 1 := by kernel_rfl
theorem open_p4 {n : Nat} {v0 v1 v2 v3 : Value} {x : DataW H × List MemPlace} (h : DataW.trod enc Tryz.prog w base sp held n 32 [v0, v1, v2, v3] = some x) : ∃ p : P4, [v0, v1, v2, v3] = encP p := by
  obtain ⟨zs, m, _, _, _, hzl, hz⟩ := DataW.trod_array Tryz.underlying32 h
  have z0 := hz 0 (by decide); have z1 := hz 1 (by decide); have z2 := hz 2 (by decide); have z3 := hz 3 (by decide)
  obtain ⟨u0, q0⟩ := some_of_len hzl (i := 0) (by decide)
  obtain ⟨u1, q1⟩ := some_of_len hzl (i := 1) (by decide)
  obtain ⟨u2, q2⟩ := some_of_len hzl (i := 2) (by decide)
  obtain ⟨u3, q3⟩ := some_of_len hzl (i := 3) (by decide)
  rw [q0] at z0; rw [q1] at z1; rw [q2] at z2; rw [q3] at z3
  rw [c3] at z0 z1 z2 z3
  obtain ⟨k0, g0, _⟩ := open_int3 z0
  obtain ⟨k1, g1, _⟩ := open_int3 z1
  obtain ⟨k2, g2, _⟩ := open_int3 z2
  obtain ⟨k3, g3, _⟩ := open_int3 z3
  simp at g0 g1 g2 g3
  subst g0; subst g1; subst g2; subst g3
  exact ⟨⟨k0, k1, k2, k3⟩, rfl⟩
theorem open_fc {n : Nat} {v0 v1 v2 v3 v4 : Value} {x : DataW H × List MemPlace} (h : DataW.trod enc Tryz.prog w base sp held n 34 [v0, v1, v2, v3, v4] = some x) : ∃ y : Fc, [v0, v1, v2, v3, v4] = encF y := by
  obtain ⟨xs, m, _, _, _, hxl, hf⟩ := DataW.trod_struct Tryz.underlying34 h
  have f0 : DataW.trod enc Tryz.prog w base sp held m 3 (([v0, v1, v2, v3, v4].drop 0).take (Tryz.prog.cellsOf 3)) = xs[0]? := hf 0 _ rfl
  have f1 : DataW.trod enc Tryz.prog w base sp held m 32 (([v0, v1, v2, v3, v4].drop 1).take (Tryz.prog.cellsOf 32)) = xs[1]? := hf 1 _ rfl
  obtain ⟨y0, e0⟩ := some_of_len hxl (i := 0) (by decide)
  obtain ⟨y1, e1⟩ := some_of_len hxl (i := 1) (by decide)
  rw [e0, c3] at f0; rw [e1, c32] at f1
  obtain ⟨k, g, _⟩ := open_int3 f0
  obtain ⟨p, hp⟩ := open_p4 (v0 := v1) (v1 := v2) (v2 := v3) (v3 := v4) f1
  simp at g
  subst g
  exact ⟨⟨k, p⟩, by rw [encP] at hp; rw [encF]; simp at hp ⊢; exact hp⟩
theorem open_tt {n : Nat} {cs : List Value} {x : DataW H × List MemPlace} (h : DataW.trod enc Tryz.prog w base sp held n 35 cs = some x) : ∃ t : Tt, cs = encT t := by
  obtain ⟨zs, m, _, _, hl, hzl, hz⟩ := DataW.trod_array Tryz.underlying35 h
  rw [c35] at hl
  have z0 := hz 0 (by decide); have z1 := hz 1 (by decide); have z2 := hz 2 (by decide); have z3 := hz 3 (by decide)
  obtain ⟨u0, q0⟩ := some_of_len hzl (i := 0) (by decide)
  obtain ⟨u1, q1⟩ := some_of_len hzl (i := 1) (by decide)
  obtain ⟨u2, q2⟩ := some_of_len hzl (i := 2) (by decide)
  obtain ⟨u3, q3⟩ := some_of_len hzl (i := 3) (by decide)
  rw [q0] at z0; rw [q1] at z1; rw [q2] at z2; rw [q3] at z3
  rw [c34] at z0 z1 z2 z3
  match cs, hl with
  | [a0, a1, a2, a3, a4, b0, b1, b2, b3, b4, d0, d1, d2, d3, d4, e0, e1, e2, e3, e4], _ =>
    obtain ⟨y0, g0⟩ := open_fc (v0 := a0) (v1 := a1) (v2 := a2) (v3 := a3) (v4 := a4) z0
    obtain ⟨y1, g1⟩ := open_fc (v0 := b0) (v1 := b1) (v2 := b2) (v3 := b3) (v4 := b4) z1
    obtain ⟨y2, g2⟩ := open_fc (v0 := d0) (v1 := d1) (v2 := d2) (v3 := d3) (v4 := d4) z2
    obtain ⟨y3, g3⟩ := open_fc (v0 := e0) (v1 := e1) (v2 := e2) (v3 := e3) (v4 := e4) z3
    refine ⟨⟨y0, y1, y2, y3⟩, ?_⟩
    rw [encF] at g0 g1 g2 g3
    simp only [List.cons.injEq, and_true] at g0 g1 g2 g3
    simp only [encT, List.cons.injEq, and_true]
    exact ⟨g0.1, g0.2.1, g0.2.2.1, g0.2.2.2.1, g0.2.2.2.2, g1.1, g1.2.1, g1.2.2.1, g1.2.2.2.1, g1.2.2.2.2, g2.1, g2.2.1, g2.2.2.1, g2.2.2.2.1, g2.2.2.2.2, g3.1, g3.2.1, g3.2.2.1, g3.2.2.2.1, g3.2.2.2.2⟩
theorem open_glu {r : Reach} {b0 : Nat} {v : Value} {x : DataW H} {ps : List MemPlace} (hv : Value.okWide Tryz.prog w r b0 24 v) (h : DataW.Trod enc Tryz.prog w base sp held 24 v x ps) : ∃ bs A cap g, v = gluV bs cap g ∧ GluAt w bs A g := by
  obtain ⟨cs, rfl, hsz⟩ := okWide_struct Tryz.underlying24 hv
  obtain ⟨l⟩ := cs
  obtain ⟨fuel, h⟩ := h
  change DataW.trod enc Tryz.prog w base sp held fuel 24 l = _ at h
  obtain ⟨xs, m, _, _, hl, hxl, hf⟩ := DataW.trod_struct Tryz.underlying24 h
  rw [c24] at hl
  match l, hl with
  | [v0], _ =>
    have f0 : DataW.trod enc Tryz.prog w base sp held m 22 (([v0].drop 0).take (Tryz.prog.cellsOf 22)) = xs[0]? := hf 0 _ rfl
    obtain ⟨y0, e0⟩ := some_of_len hxl (i := 0) (by decide)
    rw [e0, c22] at f0
    change DataW.trod enc Tryz.prog w base sp held m 22 [v0] = some y0 at f0
    rcases DataW.trod_slice Tryz.underlying22 f0 with ⟨e, _⟩ | ⟨a, len, cap, elems, rest, n, _, e, _, _, hlc, hcm, hel, hget, _⟩
    · simp at e
      subst e
      exact ⟨none, ⟨0, 0, none⟩, 0, [], rfl, ⟨fun h => absurd h (Nat.lt_irrefl 0), fun i x hi => by simp at hi, Nat.zero_le _⟩⟩
    · simp at e
      subst e
      have hcr : ∀ i, i < len → ∃ t : Tt, Cells w (a.add (i * 20)) (encT t) := by
        intro i hi
        have hg := hget i hi
        obtain ⟨y, hy⟩ := some_of_len hel hi
        rw [hy, c35] at hg
        obtain ⟨cs', h1, h2⟩ := Option.bind_eq_some_iff.1 hg
        obtain ⟨t, rfl⟩ := open_tt h2
        obtain ⟨_, hcl, hat⟩ := World.cells?_some h1
        exact ⟨t, fun j u hj => by
          have hj5 : j < 20 := by have := (List.getElem?_eq_some_iff.1 hj).1; simpa using this
          rw [hat j hj5, hj]⟩
      obtain ⟨f, hf2⟩ := Classical.axiomOfChoice (r := fun (i : Nat) (t : Tt) => i < len → Cells w (a.add (i * 20)) (encT t)) fun i => by
        by_cases hi : i < len
        · obtain ⟨c, hc⟩ := hcr i hi; exact ⟨c, fun _ => hc⟩
        · exact ⟨z4T, fun h => absurd h hi⟩
      have hll : ((List.range len).map f).length = len := by simp
      refine ⟨some a, a, cap, (List.range len).map f, by simp [gluV], ⟨fun _ => rfl, fun i x hi => ?_, ?_⟩⟩
      · have hil : i < len := by have := (List.getElem?_eq_some_iff.1 hi).1; simpa using this
        simp [hil] at hi
        subst hi
        exact hf2 i hil
      · rw [hll]; have : maxLen = 9223372036854775807 := rfl; omega
end
end Go.Proofs
/- Permutations: contracts of both texts. -/
namespace Go.Proofs
open Go Go.V
set_option maxRecDepth 20000
theorem gl_Valid (p : P4) (w : World) : Gives Tryz.prog 43 #[p4V p] w Nil (fun _ : Unit => True) (fun _ => .bool (okP p)) (fun _ => []) := by
  refine fn_of_run (S := Nil) (args := [p4V p]) (n := 23) (L := []) Tryz.func43 rfl Tryz.ntmps43 (Nat.le_of_ble_eq_true rfl) (Sym.nil _ _) ?_
  change RunC _ _ _ [(0, _)] _
  refine RunC.seq ?_
  refine RunC.region ?_
  refine RunL.grows rfl rfl rfl (Grows.box rfl rfl) (fun b1 _ => ?_)
  refine RunL.still rfl rfl rfl (Still.assign rfl rfl) ?_
  refine RunL.nil ?_
  refine Ends.then ?_
  refine RunC.seq ?_
  refine RunC.region ?_
  refine RunL.still rfl rfl rfl (Still.assign rfl rfl) ?_
  refine RunL.nil ?_
  refine Ends.then ?_
  refine RunC.seq ?_
  refine RunC.seq ?_
  refine RunC.region ?_
  refine RunL.still rfl rfl rfl (Still.loads rfl rfl Tryz.isAgg32 Tryz.sizeOf32 (vs := [_, _, _, _]) rfl (fun _ hs => cells_nth (hs.at (i := 0) rfl) ⟨rfl, ⟨rfl, ⟨rfl, ⟨rfl, trivial⟩⟩⟩⟩)) ?_
  refine RunL.still rfl rfl rfl (Still.move rfl rfl) ?_
  refine RunL.nil ?_
  refine Ends.then ?_
  refine RunC.block ?_
  refine RunC.loop2 (γ := Nat) (keep := [(6, _)]) (hkeep := [_]) (fun i => i ≤ 4 ∧ ∀ j, j < i → 0 ≤ p.at j ∧ p.at j ≤ 3) (fun i => 4 - i) (fun i => [(3, iv (bitsTo p i)), (7, iv i)]) (fun i => []) 0 ⟨by omega, fun j h => absurd h (Nat.not_lt_zero j)⟩ (Fr.Sub.cons rfl (Fr.Sub.cons rfl (Fr.Sub.nil _))) (Fr.Sub.cons rfl (Fr.Sub.nil _)) (HSub.pick 0 rfl (HSub.nil _)) ?_
  rintro i ⟨hi, hB⟩
  refine RunC.seq ?_
  refine RunC.region ?_
  refine RunL.still rfl rfl rfl (Still.lss rfl rfl rfl) ?_
  refine RunL.nil ?_
  refine Ends.then ?_
  refine RunC.seq ?_
  refine RunC.cond rfl (fun h8 => ?_) (fun h8 => ?_)
  · have h8 := of_decide_eq_true h8
    have hi4 : i < 4 := by omega
    refine RunC.skip ?_
    refine Ends.then ?_
    refine RunC.seq ?_
    refine RunC.block ?_
    refine RunC.seq ?_
    refine RunC.region ?_
    refine RunL.still rfl rfl rfl (Still.index rfl rfl rfl Tryz.underlying32 Tryz.sizeOf3 Tryz.isAgg3 ⟨by omega, by omega⟩ (p4_indexN hi4)) ?_
    refine RunL.still rfl rfl rfl (Still.assign rfl rfl) ?_
    refine RunL.nil ?_
    refine Ends.then ?_
    refine RunC.seq ?_
    refine RunC.seq ?_
    refine RunC.region ?_
    refine RunL.still rfl rfl rfl (Still.move rfl rfl) ?_
    refine RunL.still rfl rfl rfl (Still.lss rfl rfl rfl) ?_
    refine RunL.still rfl rfl rfl (Still.move rfl rfl) ?_
    refine RunL.split (t := 12) rfl (fun h12 => ?_) (fun h12 => ?_)
    · have h12 := of_decide_eq_true h12
      refine RunL.off rfl rfl rfl ?_
      refine RunL.off rfl rfl rfl ?_
      refine RunL.still rfl rfl rfl (Still.pickT rfl rfl rfl) ?_
      refine RunL.nil ?_
      refine Ends.then ?_
      refine RunC.cond_true rfl ?_
      refine RunC.seq ?_
      refine RunC.region ?_
      refine RunL.still rfl rfl rfl (Still.assign rfl rfl) ?_
      refine RunL.nil ?_
      refine Ends.then ?_
      refine RunC.ret ?_
      refine Ends.then_ret ?_
      refine Ends.block_ret ?_
      refine Ends.then_ret ?_
      refine Ends.then_ret ?_
      refine Ends.block_ret ?_
      refine Ends.then_ret ?_
      refine Ends.leave (.inl rfl) (fun _ _ ok => results1 Tryz.results43 (Holds.tmp rfl) ok) (fun w1 hs => ?_)
      exact Ret.intro () trivial (congrArg Value.bool (okP_lo (i := i) (by omega)).symm) (HSub.nil _) hs
    · have h12 := of_decide_eq_false h12
      refine RunL.still rfl rfl rfl (Still.move rfl rfl) ?_
      refine RunL.still rfl rfl rfl (Still.gtr rfl rfl rfl) ?_
      refine RunL.still rfl rfl rfl (Still.pickF rfl rfl rfl) ?_
      refine RunL.nil ?_
      refine Ends.then ?_
      refine RunC.cond rfl (fun h15 => ?_) (fun h15 => ?_)
      · have h15 := of_decide_eq_true h15
        refine RunC.seq ?_
        refine RunC.region ?_
        refine RunL.still rfl rfl rfl (Still.assign rfl rfl) ?_
        refine RunL.nil ?_
        refine Ends.then ?_
        refine RunC.ret ?_
        refine Ends.then_ret ?_
        refine Ends.block_ret ?_
        refine Ends.then_ret ?_
        refine Ends.then_ret ?_
        refine Ends.block_ret ?_
        refine Ends.then_ret ?_
        refine Ends.leave (.inl rfl) (fun _ _ ok => results1 Tryz.results43 (Holds.tmp rfl) ok) (fun w2 hs => ?_)
        exact Ret.intro () trivial (congrArg Value.bool (okP_hi (i := i) (by omega)).symm) (HSub.nil _) hs
      · have h15 := of_decide_eq_false h15
        refine RunC.skip ?_
        refine Ends.then ?_
        refine RunC.region ?_
        refine RunL.still rfl rfl rfl (Still.move rfl rfl) ?_
        refine RunL.still rfl rfl rfl (Still.move rfl rfl) ?_
        refine RunL.still rfl rfl rfl (Still.shl rfl rfl rfl (by omega) (shl_bit (by omega))) ?_
        refine RunL.still rfl rfl rfl (Still.or rfl rfl rfl (rfl)) ?_
        refine RunL.still rfl rfl rfl (Still.assign rfl rfl) ?_
        refine RunL.nil ?_
        refine Ends.block ?_
        refine Ends.then ?_
        refine RunC.region ?_
        refine RunL.still rfl rfl rfl (Still.add rfl rfl rfl (fits64 (by omega) (by omega))) ?_
        refine RunL.still rfl rfl rfl (Still.move rfl rfl) ?_
        refine RunL.nil ?_
        refine Ends.again (i + 1) ?_ ?_ (Fr.Sub.app ?_ ?_) ?_
        · exact ⟨by omega, fun j h => by rcases Nat.lt_or_ge j i with h2 | h2; exact hB j h2; obtain rfl : j = i := (by omega); omega⟩
        · show _ < _; omega
        · exact Fr.Sub.cons rfl (Fr.Sub.cons rfl (Fr.Sub.nil _))
        · exact Fr.Sub.cons rfl (Fr.Sub.nil _)
        · exact HSub.pick 0 rfl (HSub.nil _)
  · have h8 := of_decide_eq_false h8
    obtain rfl : i = 4 := by omega
    refine RunC.exit ?_
    refine Ends.then_exit ?_
    refine Ends.then_exit ?_
    refine Ends.block_exit ?_
    refine Ends.then ?_
    refine RunC.seq ?_
    refine RunC.region ?_
    refine RunL.still rfl rfl rfl (Still.move rfl rfl) ?_
    refine RunL.still rfl rfl rfl (Still.eql rfl rfl rfl) ?_
    refine RunL.still rfl rfl rfl (Still.assign rfl rfl) ?_
    refine RunL.nil ?_
    refine Ends.then ?_
    refine RunC.ret ?_
    refine Ends.leave (.inl rfl) (fun _ _ ok => results1 Tryz.results43 (Holds.tmp rfl) ok) (fun w3 hs => ?_)
    exact Ret.intro () trivial (congrArg Value.bool (bitsTo_ok hB)) (HSub.nil _) hs

theorem rf_Valid (p : P4) (w : World) : Gives Tryz.prog 44 #[p4V p] w Nil (fun _ : Unit => True) (fun _ => .bool (okP p)) (fun _ => []) := by
  refine fn_of_run (S := Nil) (args := [p4V p]) (n := 30) (L := []) Tryz.func44 rfl Tryz.ntmps44 (Nat.le_of_ble_eq_true rfl) (Sym.nil _ _) ?_
  change RunC _ _ _ [(0, _)] _
  refine RunC.seq ?_
  refine RunC.region ?_
  refine RunL.grows rfl rfl rfl (Grows.box rfl rfl) (fun b1 _ => ?_)
  refine RunL.still rfl rfl rfl (Still.assign rfl rfl) ?_
  refine RunL.nil ?_
  refine Ends.then ?_
  refine RunC.seq ?_
  refine RunC.region ?_
  refine RunL.grows rfl rfl rfl (Grows.alloc rfl Tryz.zeroValue99) (fun b3 _ => ?_)
  refine RunL.nil ?_
  refine Ends.then ?_
  refine RunC.seq ?_
  refine RunC.seq ?_
  refine RunC.region ?_
  refine RunL.still rfl rfl rfl (Still.assign rfl rfl) ?_
  refine RunL.nil ?_
  refine Ends.then ?_
  refine RunC.block ?_
  refine RunC.loop2 (γ := Nat) (keep := [(1, _), (3, _)]) (hkeep := [_]) (fun i => i ≤ 4 ∧ ∀ j, j < i → (0 ≤ p.at j ∧ p.at j ≤ 3) ∧ mt p j (p.at j) = false) (fun i => 4 - i) (fun i => [(4, iv i)]) (fun i => [HL.obj b3 (.cells (metA p i) 99 (0, 0))]) 0 ⟨by omega, fun j h => absurd h (Nat.not_lt_zero j)⟩ (Fr.Sub.cons rfl (Fr.Sub.nil _)) (Fr.Sub.cons rfl (Fr.Sub.cons rfl (Fr.Sub.nil _))) (HSub.pick 0 rfl (HSub.pick 0 rfl (HSub.nil _))) ?_
  rintro i ⟨hi, hB⟩
  refine RunC.seq ?_
  refine RunC.seq ?_
  refine RunC.region ?_
  refine RunL.still rfl rfl rfl (Still.move rfl rfl) ?_
  refine RunL.still rfl rfl rfl (Still.lss rfl rfl rfl) ?_
  refine RunL.nil ?_
  refine Ends.then ?_
  refine RunC.cond rfl (fun h6 => ?_) (fun h6 => ?_)
  · have h6 := of_decide_eq_true h6
    have hi4 : i < 4 := by omega
    refine RunC.skip ?_
    refine Ends.then ?_
    refine RunC.seq ?_
    refine RunC.block ?_
    refine RunC.seq ?_
    refine RunC.seq ?_
    refine RunC.region ?_
    refine RunL.still rfl rfl rfl (Still.move rfl rfl) ?_
    refine RunL.still rfl rfl rfl (Still.indexArrNL rfl rfl rfl Tryz.underlying32 Tryz.sizeOf3 (by omega)) ?_
    refine RunL.still rfl rfl rfl (Still.load (v := iv (p.at i)) rfl rfl Tryz.isAgg3 (fun _ hs => cell_nth (hs.at (i := 1) rfl) (nth_p4 hi4))) ?_
    refine RunL.still rfl rfl rfl (Still.lss rfl rfl rfl) ?_
    refine RunL.still rfl rfl rfl (Still.move rfl rfl) ?_
    refine RunL.split (t := 13) rfl (fun h13 => ?_) (fun h13 => ?_)
    · have h13 := of_decide_eq_true h13
      refine RunL.off rfl rfl rfl ?_
      refine RunL.off rfl rfl rfl ?_
      refine RunL.off rfl rfl rfl ?_
      refine RunL.off rfl rfl rfl ?_
      refine RunL.still rfl rfl rfl (Still.pickT rfl rfl rfl) ?_
      refine RunL.still rfl rfl rfl (Still.move rfl rfl) ?_
      refine RunL.off rfl rfl rfl ?_
      refine RunL.off rfl rfl rfl ?_
      refine RunL.off rfl rfl rfl ?_
      refine RunL.off rfl rfl rfl ?_
      refine RunL.off rfl rfl rfl ?_
      refine RunL.still rfl rfl rfl (Still.pickT rfl rfl rfl) ?_
      refine RunL.nil ?_
      refine Ends.then ?_
      refine RunC.cond_true rfl ?_
      refine RunC.seq ?_
      refine RunC.region ?_
      refine RunL.still rfl rfl rfl (Still.assign rfl rfl) ?_
      refine RunL.nil ?_
      refine Ends.then ?_
      refine RunC.ret ?_
      refine Ends.then_ret ?_
      refine Ends.block_ret ?_
      refine Ends.then_ret ?_
      refine Ends.then_ret ?_
      refine Ends.block_ret ?_
      refine Ends.then_ret ?_
      refine Ends.leave (.inl rfl) (fun _ _ ok => results1 Tryz.results44 (Holds.tmp rfl) ok) (fun w1 hs => ?_)
      exact Ret.intro () trivial (congrArg Value.bool (okP_lo (i := i) (by omega)).symm) (HSub.nil _) hs
    · have h13 := of_decide_eq_false h13
      refine RunL.still rfl rfl rfl (Still.move rfl rfl) ?_
      refine RunL.still rfl rfl rfl (Still.indexArrNL rfl rfl rfl Tryz.underlying32 Tryz.sizeOf3 (by omega)) ?_
      refine RunL.still rfl rfl rfl (Still.load (v := iv (p.at i)) rfl rfl Tryz.isAgg3 (fun _ hs => cell_nth (hs.at (i := 1) rfl) (nth_p4 hi4))) ?_
      refine RunL.still rfl rfl rfl (Still.gtr rfl rfl rfl) ?_
      refine RunL.still rfl rfl rfl (Still.pickF rfl rfl rfl) ?_
      refine RunL.still rfl rfl rfl (Still.move rfl rfl) ?_
      refine RunL.split (t := 19) rfl (fun h19 => ?_) (fun h19 => ?_)
      · have h19 := of_decide_eq_true h19
        refine RunL.off rfl rfl rfl ?_
        refine RunL.off rfl rfl rfl ?_
        refine RunL.off rfl rfl rfl ?_
        refine RunL.off rfl rfl rfl ?_
        refine RunL.off rfl rfl rfl ?_
        refine RunL.still rfl rfl rfl (Still.pickT rfl rfl rfl) ?_
        refine RunL.nil ?_
        refine Ends.then ?_
        refine RunC.cond_true rfl ?_
        refine RunC.seq ?_
        refine RunC.region ?_
        refine RunL.still rfl rfl rfl (Still.assign rfl rfl) ?_
        refine RunL.nil ?_
        refine Ends.then ?_
        refine RunC.ret ?_
        refine Ends.then_ret ?_
        refine Ends.block_ret ?_
        refine Ends.then_ret ?_
        refine Ends.then_ret ?_
        refine Ends.block_ret ?_
        refine Ends.then_ret ?_
        refine Ends.leave (.inl rfl) (fun _ _ ok => results1 Tryz.results44 (Holds.tmp rfl) ok) (fun w2 hs => ?_)
        exact Ret.intro () trivial (congrArg Value.bool (okP_hi (i := i) (by omega)).symm) (HSub.nil _) hs
      · have h19 := of_decide_eq_false h19
        refine RunL.still rfl rfl rfl (Still.move rfl rfl) ?_
        refine RunL.still rfl rfl rfl (Still.indexArrNL rfl rfl rfl Tryz.underlying32 Tryz.sizeOf3 (by omega)) ?_
        refine RunL.still rfl rfl rfl (Still.load (v := iv (p.at i)) rfl rfl Tryz.isAgg3 (fun _ hs => cell_nth (hs.at (i := 1) rfl) (nth_p4 hi4))) ?_
        refine RunL.still rfl rfl rfl (Still.indexArrEL (p.at i).toNat rfl rfl rfl Tryz.underlying99 Tryz.sizeOf4 (by omega) (by omega)) ?_
        refine RunL.still rfl rfl rfl (Still.load (v := .bool (mt p i (p.at i))) rfl rfl Tryz.isAgg4 (fun _ hs => cell_nth (hs.at (i := 0) rfl) (nth_met (by omega)))) ?_
        refine RunL.still rfl rfl rfl (Still.pickF rfl rfl rfl) ?_
        refine RunL.nil ?_
        refine Ends.then ?_
        refine RunC.cond rfl (fun h25 => ?_) (fun h25 => ?_)
        · skip
          refine RunC.seq ?_
          refine RunC.region ?_
          refine RunL.still rfl rfl rfl (Still.assign rfl rfl) ?_
          refine RunL.nil ?_
          refine Ends.then ?_
          refine RunC.ret ?_
          refine Ends.then_ret ?_
          refine Ends.block_ret ?_
          refine Ends.then_ret ?_
          refine Ends.then_ret ?_
          refine Ends.block_ret ?_
          refine Ends.then_ret ?_
          refine Ends.leave (.inl rfl) (fun _ _ ok => results1 Tryz.results44 (Holds.tmp rfl) ok) (fun w3 hs => ?_)
          exact Ret.intro () trivial (congrArg Value.bool (okP_met hi4 h25).symm) (HSub.nil _) hs
        · skip
          refine RunC.skip ?_
          refine Ends.then ?_
          refine RunC.region ?_
          refine RunL.still rfl rfl rfl (Still.move rfl rfl) ?_
          refine RunL.still rfl rfl rfl (Still.indexArrNL rfl rfl rfl Tryz.underlying32 Tryz.sizeOf3 (by omega)) ?_
          refine RunL.still rfl rfl rfl (Still.load (v := iv (p.at i)) rfl rfl Tryz.isAgg3 (fun _ hs => cell_nth (hs.at (i := 1) rfl) (nth_p4 hi4))) ?_
          refine RunL.still rfl rfl rfl (Still.indexArrEL (p.at i).toNat rfl rfl rfl Tryz.underlying99 Tryz.sizeOf4 (by omega) (by omega)) ?_
          refine RunL.does0 rfl rfl (Does.store1 rfl rfl rfl (i := 0) rfl Tryz.sizeOf4 rfl (Nat.ble_eq_true_of_le (show 0 + (p.at i).toNat * 1 + 1 ≤ 4 by omega))) (fun _ _ => ?_)
          refine RunL.conv (fun _ hs => hs.re 0 rfl (show _ = HL.obj b3 (.cells (metA p (i + 1)) 99 (0, 0)) from congrArg (fun z => HL.obj b3 (.cells z 99 (0, 0))) (metA_set (by omega)))) ?_
          refine RunL.nil ?_
          refine Ends.block ?_
          refine Ends.then ?_
          refine RunC.region ?_
          refine RunL.still rfl rfl rfl (Still.move rfl rfl) ?_
          refine RunL.still rfl rfl rfl (Still.add rfl rfl rfl (fits64 (by omega) (by omega))) ?_
          refine RunL.still rfl rfl rfl (Still.assign rfl rfl) ?_
          refine RunL.nil ?_
          refine Ends.again (i + 1) ?_ ?_ (Fr.Sub.app ?_ ?_) ?_
          · exact ⟨by omega, fun j h => by rcases Nat.lt_or_ge j i with h2 | h2; exact hB j h2; obtain rfl : j = i := (by omega); exact ⟨by omega, h25⟩⟩
          · show _ < _; omega
          · exact Fr.Sub.cons rfl (Fr.Sub.nil _)
          · exact Fr.Sub.cons rfl (Fr.Sub.cons rfl (Fr.Sub.nil _))
          · exact HSub.pick 0 rfl (HSub.pick 0 rfl (HSub.nil _))
  · have h6 := of_decide_eq_false h6
    obtain rfl : i = 4 := by omega
    refine RunC.exit ?_
    refine Ends.then_exit ?_
    refine Ends.then_exit ?_
    refine Ends.block_exit ?_
    refine Ends.then ?_
    refine RunC.seq ?_
    refine RunC.region ?_
    refine RunL.still rfl rfl rfl (Still.assign rfl rfl) ?_
    refine RunL.nil ?_
    refine Ends.then ?_
    refine RunC.ret ?_
    refine Ends.leave (.inl rfl) (fun _ _ ok => results1 Tryz.results44 (Holds.tmp rfl) ok) (fun w4 hs => ?_)
    exact Ret.intro () trivial (congrArg Value.bool (okP_true hB).symm) (HSub.nil _) hs

theorem gl_compose (p q : P4) (w : World) (hq : okP q = true) : Gives Tryz.prog 52 #[p4V p, p4V q] w Nil (fun _ : Unit => True) (fun _ => p4V (compP p q)) (fun _ => []) := by
  have q0 := okP_at hq 0; have q1 := okP_at hq 1; have q2 := okP_at hq 2; have q3 := okP_at hq 3
  simp only [P4.at] at q0 q1 q2 q3
  refine fn_of_run (S := Nil) (args := [p4V p, p4V q]) (n := 22) (L := []) Tryz.func52 rfl Tryz.ntmps52 (Nat.le_of_ble_eq_true rfl) (Sym.nil _ _) ?_
  change RunC _ _ _ [(0, _), (1, _)] _
  refine RunC.seq ?_
  refine RunC.region ?_
  refine RunL.grows rfl rfl rfl (Grows.box rfl rfl) (fun b2 _ => ?_)
  refine RunL.grows rfl rfl rfl (Grows.box rfl rfl) (fun b3 _ => ?_)
  refine RunL.grows rfl rfl rfl (Grows.alloc rfl Tryz.zeroValue32) (fun b4 _ => ?_)
  refine RunL.nil ?_
  refine Ends.then ?_
  refine RunC.seq ?_
  refine RunC.draw 17 (.still 0 (.still 1 (.still 2 (.still 3 (.still 4 (.still 5 (.still 6 (.still 7 (.still 8 (.still 9 (.still 10 (.still 11 (.still 12 (.still 13 (.still 14 (.still 15 (.still 16 .done))))))))))))))))) (by kernel_rfl) (by kernel_rfl) ?_
  refine RunG.still rfl rfl rfl rfl (Still.indexArrNL rfl rfl rfl Tryz.underlying32 Tryz.sizeOf3 (by decide)) ?_
  refine RunG.still rfl rfl rfl rfl (Still.load rfl rfl Tryz.isAgg3 (fun _ hs => cell_nth (hs.at (i := 1) rfl) rfl)) ?_
  refine RunG.still rfl rfl rfl rfl (Still.indexArrEL q.a0.toNat rfl rfl rfl Tryz.underlying32 Tryz.sizeOf3 (by omega) (by omega)) ?_
  refine RunG.still rfl rfl rfl rfl (Still.load (v := iv (p.at q.a0.toNat)) rfl rfl Tryz.isAgg3 (fun _ hs => cell_nth (hs.at (i := 2) rfl) (nth_p4 (by omega)))) ?_
  refine RunG.still rfl rfl rfl rfl (Still.indexArrNL rfl rfl rfl Tryz.underlying32 Tryz.sizeOf3 (by decide)) ?_
  refine RunG.still rfl rfl rfl rfl (Still.load rfl rfl Tryz.isAgg3 (fun _ hs => cell_nth (hs.at (i := 1) rfl) rfl)) ?_
  refine RunG.still rfl rfl rfl rfl (Still.indexArrEL q.a1.toNat rfl rfl rfl Tryz.underlying32 Tryz.sizeOf3 (by omega) (by omega)) ?_
  refine RunG.still rfl rfl rfl rfl (Still.load (v := iv (p.at q.a1.toNat)) rfl rfl Tryz.isAgg3 (fun _ hs => cell_nth (hs.at (i := 2) rfl) (nth_p4 (by omega)))) ?_
  refine RunG.still rfl rfl rfl rfl (Still.indexArrNL rfl rfl rfl Tryz.underlying32 Tryz.sizeOf3 (by decide)) ?_
  refine RunG.still rfl rfl rfl rfl (Still.load rfl rfl Tryz.isAgg3 (fun _ hs => cell_nth (hs.at (i := 1) rfl) rfl)) ?_
  refine RunG.still rfl rfl rfl rfl (Still.indexArrEL q.a2.toNat rfl rfl rfl Tryz.underlying32 Tryz.sizeOf3 (by omega) (by omega)) ?_
  refine RunG.still rfl rfl rfl rfl (Still.load (v := iv (p.at q.a2.toNat)) rfl rfl Tryz.isAgg3 (fun _ hs => cell_nth (hs.at (i := 2) rfl) (nth_p4 (by omega)))) ?_
  refine RunG.still rfl rfl rfl rfl (Still.indexArrNL rfl rfl rfl Tryz.underlying32 Tryz.sizeOf3 (by decide)) ?_
  refine RunG.still rfl rfl rfl rfl (Still.load rfl rfl Tryz.isAgg3 (fun _ hs => cell_nth (hs.at (i := 1) rfl) rfl)) ?_
  refine RunG.still rfl rfl rfl rfl (Still.indexArrEL q.a3.toNat rfl rfl rfl Tryz.underlying32 Tryz.sizeOf3 (by omega) (by omega)) ?_
  refine RunG.still rfl rfl rfl rfl (Still.load (v := iv (p.at q.a3.toNat)) rfl rfl Tryz.isAgg3 (fun _ hs => cell_nth (hs.at (i := 2) rfl) (nth_p4 (by omega)))) ?_
  refine RunG.still rfl rfl rfl rfl (Still.build_1_1_1_1 (fun x0_0 x1_0 x2_0 x3_0 => .agg #[x0_0, x1_0, x2_0, x3_0]) rfl rfl rfl rfl rfl (fun _ => by kernel_rfl)) ?_
  refine RunG.done ?_
  show RunL _ _ _ [_] _ _
  refine RunL.does0 rfl rfl (Does.store rfl rfl rfl (i := 0) rfl Tryz.sizeOf32 rfl (rfl) rfl) (fun _ _ => ?_)
  refine RunL.nil ?_
  refine Ends.then ?_
  refine RunC.ret ?_
  refine Ends.leave (.inl rfl) (fun _ _ ok => results1 Tryz.results52 (Holds.cell rfl (fun _ hs => load_cells (vs := [_, _, _, _]) Tryz.isAgg32 Tryz.sizeOf32 rfl (cells_nth (hs.at (i := 0) rfl) ⟨rfl, ⟨rfl, ⟨rfl, ⟨rfl, trivial⟩⟩⟩⟩))) ok) (fun w1 hs => ?_)
  exact Ret.intro () trivial rfl (HSub.nil _) hs

theorem gl_Compose (p q : P4) (w : World) : Gives Tryz.prog 41 #[p4V p, p4V q] w Nil (fun _ : Unit => True) (fun _ => p4V (compR p q)) (fun _ => []) := by
  refine fn_of_run (S := Nil) (args := [p4V p, p4V q]) (n := 17) (L := []) Tryz.func41 rfl Tryz.ntmps41 (Nat.le_of_ble_eq_true rfl) (Sym.nil _ _) ?_
  change RunC _ _ _ [(0, _), (1, _)] _
  refine RunC.seq ?_
  refine RunC.region ?_
  refine RunL.grows rfl rfl rfl (Grows.box rfl rfl) (fun b2 _ => ?_)
  refine RunL.grows rfl rfl rfl (Grows.box rfl rfl) (fun b3 _ => ?_)
  refine RunL.grows rfl rfl rfl (Grows.alloc rfl Tryz.zeroValue32) (fun b4 _ => ?_)
  refine RunL.nil ?_
  refine Ends.then ?_
  refine RunC.seq ?_
  refine RunC.seq ?_
  refine RunC.region ?_
  refine RunL.still rfl rfl rfl (Still.loads rfl rfl Tryz.isAgg32 Tryz.sizeOf32 (vs := [_, _, _, _]) rfl (fun _ hs => cells_nth (hs.at (i := 2) rfl) ⟨rfl, ⟨rfl, ⟨rfl, ⟨rfl, trivial⟩⟩⟩⟩)) ?_
  refine RunL.grows rfl rfl rfl (Grows.call (vs := #[_]) rfl rfl Tryz.call43 (fun w hs => gl_Valid p w)) (fun _ _ => ?_)
  refine RunL.still rfl rfl rfl (Still.not rfl rfl) ?_
  refine RunL.still rfl rfl rfl (Still.move rfl rfl) ?_
  refine RunL.split (t := 8) rfl (fun h8 => ?_) (fun h8 => ?_)
  · have h8p : okP p = false := by simpa using h8
    refine RunL.off rfl rfl rfl ?_
    refine RunL.off rfl rfl rfl ?_
    refine RunL.off rfl rfl rfl ?_
    refine RunL.still rfl rfl rfl (Still.pickT rfl rfl rfl) ?_
    refine RunL.nil ?_
    refine Ends.then ?_
    refine RunC.cond_true rfl ?_
    refine RunC.seq ?_
    refine RunC.region ?_
    refine RunL.still rfl rfl rfl (Still.build_0 (.agg #[.int .i64 0, .int .i64 0, .int .i64 0, .int .i64 0]) rfl (fun _ => by kernel_rfl)) ?_
    refine RunL.does0 rfl rfl (Does.store rfl rfl rfl (i := 0) rfl Tryz.sizeOf32 rfl (rfl) rfl) (fun _ _ => ?_)
    refine RunL.nil ?_
    refine Ends.then ?_
    refine RunC.ret ?_
    refine Ends.then_ret ?_
    refine Ends.leave (.inl rfl) (fun _ _ ok => results1 Tryz.results41 (Holds.cell rfl (fun _ hs => load_cells (vs := [_, _, _, _]) Tryz.isAgg32 Tryz.sizeOf32 rfl (cells_nth (hs.at (i := 0) rfl) ⟨rfl, ⟨rfl, ⟨rfl, ⟨rfl, trivial⟩⟩⟩⟩))) ok) (fun w1 hs => ?_)
    exact Ret.intro () trivial (by rw [compR, if_neg (by simp [h8p])]; rfl) (HSub.nil _) hs
  · have h8p : okP p = true := by simpa using h8
    refine RunL.still rfl rfl rfl (Still.loads rfl rfl Tryz.isAgg32 Tryz.sizeOf32 (vs := [_, _, _, _]) rfl (fun _ hs => cells_nth (hs.at (i := 1) rfl) ⟨rfl, ⟨rfl, ⟨rfl, ⟨rfl, trivial⟩⟩⟩⟩)) ?_
    refine RunL.grows rfl rfl rfl (Grows.call (vs := #[_]) rfl rfl Tryz.call43 (fun w hs => gl_Valid q w)) (fun _ _ => ?_)
    refine RunL.still rfl rfl rfl (Still.not rfl rfl) ?_
    refine RunL.still rfl rfl rfl (Still.pickF rfl rfl rfl) ?_
    refine RunL.nil ?_
    refine Ends.then ?_
    refine RunC.cond rfl (fun h12 => ?_) (fun h12 => ?_)
    · have h12q : okP q = false := by simpa using h12
      refine RunC.seq ?_
      refine RunC.region ?_
      refine RunL.still rfl rfl rfl (Still.build_0 (.agg #[.int .i64 0, .int .i64 0, .int .i64 0, .int .i64 0]) rfl (fun _ => by kernel_rfl)) ?_
      refine RunL.does0 rfl rfl (Does.store rfl rfl rfl (i := 0) rfl Tryz.sizeOf32 rfl (rfl) rfl) (fun _ _ => ?_)
      refine RunL.nil ?_
      refine Ends.then ?_
      refine RunC.ret ?_
      refine Ends.then_ret ?_
      refine Ends.leave (.inl rfl) (fun _ _ ok => results1 Tryz.results41 (Holds.cell rfl (fun _ hs => load_cells (vs := [_, _, _, _]) Tryz.isAgg32 Tryz.sizeOf32 rfl (cells_nth (hs.at (i := 0) rfl) ⟨rfl, ⟨rfl, ⟨rfl, ⟨rfl, trivial⟩⟩⟩⟩))) ok) (fun w2 hs => ?_)
      exact Ret.intro () trivial (by rw [compR, if_neg (by simp [h12q])]; rfl) (HSub.nil _) hs
    · have h12q : okP q = true := by simpa using h12
      refine RunC.skip ?_
      refine Ends.then ?_
      refine RunC.seq ?_
      refine RunC.region ?_
      refine RunL.still rfl rfl rfl (Still.loads rfl rfl Tryz.isAgg32 Tryz.sizeOf32 (vs := [_, _, _, _]) rfl (fun _ hs => cells_nth (hs.at (i := 2) rfl) ⟨rfl, ⟨rfl, ⟨rfl, ⟨rfl, trivial⟩⟩⟩⟩)) ?_
      refine RunL.still rfl rfl rfl (Still.loads rfl rfl Tryz.isAgg32 Tryz.sizeOf32 (vs := [_, _, _, _]) rfl (fun _ hs => cells_nth (hs.at (i := 1) rfl) ⟨rfl, ⟨rfl, ⟨rfl, ⟨rfl, trivial⟩⟩⟩⟩)) ?_
      refine RunL.grows rfl rfl rfl (Grows.call (vs := #[_, _]) rfl rfl Tryz.call52 (fun w hs => gl_compose p q w h12q)) (fun _ _ => ?_)
      refine RunL.does0 rfl rfl (Does.store rfl rfl rfl (i := 0) rfl Tryz.sizeOf32 rfl (rfl) rfl) (fun _ _ => ?_)
      refine RunL.nil ?_
      refine Ends.then ?_
      refine RunC.ret ?_
      refine Ends.leave (.inl rfl) (fun _ _ ok => results1 Tryz.results41 (Holds.cell rfl (fun _ hs => load_cells (vs := [_, _, _, _]) Tryz.isAgg32 Tryz.sizeOf32 rfl (cells_nth (hs.at (i := 0) rfl) ⟨rfl, ⟨rfl, ⟨rfl, ⟨rfl, trivial⟩⟩⟩⟩))) ok) (fun w3 hs => ?_)
      exact Ret.intro () trivial (by rw [compR, if_pos ⟨h8p, h12q⟩]) (HSub.nil _) hs

theorem rf_Compose (p q : P4) (w : World) : Gives Tryz.prog 37 #[p4V p, p4V q] w Nil (fun _ : Unit => True) (fun _ => p4V (compR p q)) (fun _ => []) := by
  refine fn_of_run (S := Nil) (args := [p4V p, p4V q]) (n := 28) (L := []) Tryz.func37 rfl Tryz.ntmps37 (Nat.le_of_ble_eq_true rfl) (Sym.nil _ _) ?_
  change RunC _ _ _ [(0, _), (1, _)] _
  refine RunC.seq ?_
  refine RunC.region ?_
  refine RunL.grows rfl rfl rfl (Grows.box rfl rfl) (fun b2 _ => ?_)
  refine RunL.grows rfl rfl rfl (Grows.box rfl rfl) (fun b3 _ => ?_)
  refine RunL.grows rfl rfl rfl (Grows.alloc rfl Tryz.zeroValue32) (fun b4 _ => ?_)
  refine RunL.nil ?_
  refine Ends.then ?_
  refine RunC.seq ?_
  refine RunC.region ?_
  refine RunL.grows rfl rfl rfl (Grows.alloc rfl Tryz.zeroValue32) (fun b5 _ => ?_)
  refine RunL.nil ?_
  refine Ends.then ?_
  refine RunC.seq ?_
  refine RunC.seq ?_
  refine RunC.region ?_
  refine RunL.still rfl rfl rfl (Still.loads rfl rfl Tryz.isAgg32 Tryz.sizeOf32 (vs := [_, _, _, _]) rfl (fun _ hs => cells_nth (hs.at (i := 3) rfl) ⟨rfl, ⟨rfl, ⟨rfl, ⟨rfl, trivial⟩⟩⟩⟩)) ?_
  refine RunL.grows rfl rfl rfl (Grows.call (vs := #[_]) rfl rfl Tryz.call44 (fun w hs => rf_Valid p w)) (fun _ _ => ?_)
  refine RunL.still rfl rfl rfl (Still.not rfl rfl) ?_
  refine RunL.still rfl rfl rfl (Still.move rfl rfl) ?_
  refine RunL.split (t := 10) rfl (fun h10 => ?_) (fun h10 => ?_)
  · have h10p : okP p = false := by simpa using h10
    refine RunL.off rfl rfl rfl ?_
    refine RunL.off rfl rfl rfl ?_
    refine RunL.off rfl rfl rfl ?_
    refine RunL.still rfl rfl rfl (Still.pickT rfl rfl rfl) ?_
    refine RunL.nil ?_
    refine Ends.then ?_
    refine RunC.cond_true rfl ?_
    refine RunC.seq ?_
    refine RunC.region ?_
    refine RunL.still rfl rfl rfl (Still.loads rfl rfl Tryz.isAgg32 Tryz.sizeOf32 (vs := [_, _, _, _]) rfl (fun _ hs => cells_nth (hs.at (i := 0) rfl) ⟨rfl, ⟨rfl, ⟨rfl, ⟨rfl, trivial⟩⟩⟩⟩)) ?_
    refine RunL.does0 rfl rfl (Does.store rfl rfl rfl (i := 1) rfl Tryz.sizeOf32 rfl (rfl) rfl) (fun _ _ => ?_)
    refine RunL.nil ?_
    refine Ends.then ?_
    refine RunC.ret ?_
    refine Ends.then_ret ?_
    refine Ends.leave (.inl rfl) (fun _ _ ok => results1 Tryz.results37 (Holds.cell rfl (fun _ hs => load_cells (vs := [_, _, _, _]) Tryz.isAgg32 Tryz.sizeOf32 rfl (cells_nth (hs.at (i := 1) rfl) ⟨rfl, ⟨rfl, ⟨rfl, ⟨rfl, trivial⟩⟩⟩⟩))) ok) (fun w1 hs => ?_)
    exact Ret.intro () trivial (by rw [compR, if_neg (by simp [h10p])]; rfl) (HSub.nil _) hs
  · have h10p : okP p = true := by simpa using h10
    refine RunL.still rfl rfl rfl (Still.loads rfl rfl Tryz.isAgg32 Tryz.sizeOf32 (vs := [_, _, _, _]) rfl (fun _ hs => cells_nth (hs.at (i := 2) rfl) ⟨rfl, ⟨rfl, ⟨rfl, ⟨rfl, trivial⟩⟩⟩⟩)) ?_
    refine RunL.grows rfl rfl rfl (Grows.call (vs := #[_]) rfl rfl Tryz.call44 (fun w hs => rf_Valid q w)) (fun _ _ => ?_)
    refine RunL.still rfl rfl rfl (Still.not rfl rfl) ?_
    refine RunL.still rfl rfl rfl (Still.pickF rfl rfl rfl) ?_
    refine RunL.nil ?_
    refine Ends.then ?_
    refine RunC.cond rfl (fun h14 => ?_) (fun h14 => ?_)
    · have h14q : okP q = false := by simpa using h14
      refine RunC.seq ?_
      refine RunC.region ?_
      refine RunL.still rfl rfl rfl (Still.loads rfl rfl Tryz.isAgg32 Tryz.sizeOf32 (vs := [_, _, _, _]) rfl (fun _ hs => cells_nth (hs.at (i := 0) rfl) ⟨rfl, ⟨rfl, ⟨rfl, ⟨rfl, trivial⟩⟩⟩⟩)) ?_
      refine RunL.does0 rfl rfl (Does.store rfl rfl rfl (i := 1) rfl Tryz.sizeOf32 rfl (rfl) rfl) (fun _ _ => ?_)
      refine RunL.nil ?_
      refine Ends.then ?_
      refine RunC.ret ?_
      refine Ends.then_ret ?_
      refine Ends.leave (.inl rfl) (fun _ _ ok => results1 Tryz.results37 (Holds.cell rfl (fun _ hs => load_cells (vs := [_, _, _, _]) Tryz.isAgg32 Tryz.sizeOf32 rfl (cells_nth (hs.at (i := 1) rfl) ⟨rfl, ⟨rfl, ⟨rfl, ⟨rfl, trivial⟩⟩⟩⟩))) ok) (fun w2 hs => ?_)
      exact Ret.intro () trivial (by rw [compR, if_neg (by simp [h14q])]; rfl) (HSub.nil _) hs
    · have h14q : okP q = true := by simpa using h14
      refine RunC.skip ?_
      refine Ends.then ?_
      refine RunC.seq ?_
      refine RunC.seq ?_
      refine RunC.region ?_
      refine RunL.still rfl rfl rfl (Still.assign rfl rfl) ?_
      refine RunL.nil ?_
      refine Ends.then ?_
      refine RunC.block ?_
      refine RunC.loop2 (γ := Nat) (keep := [(2, _), (3, _), (4, _), (5, _)]) (hkeep := [_, _, _]) (fun i => i ≤ 4) (fun i => 4 - i) (fun i => [(6, iv i)]) (fun i => [HL.obj b5 (.cells (cTo (compP p q) i) 32 (0, 0))]) 0 (by omega) (Fr.Sub.cons rfl (Fr.Sub.nil _)) (Fr.Sub.cons rfl (Fr.Sub.cons rfl (Fr.Sub.cons rfl (Fr.Sub.cons rfl (Fr.Sub.nil _))))) (HSub.pick 0 rfl (HSub.pick 0 rfl (HSub.pick 0 rfl (HSub.pick 0 rfl (HSub.nil _))))) ?_
      rintro i hi
      refine RunC.seq ?_
      refine RunC.seq ?_
      refine RunC.region ?_
      refine RunL.still rfl rfl rfl (Still.move rfl rfl) ?_
      refine RunL.still rfl rfl rfl (Still.lss rfl rfl rfl) ?_
      refine RunL.nil ?_
      refine Ends.then ?_
      refine RunC.cond rfl (fun h17 => ?_) (fun h17 => ?_)
      · have h17 := of_decide_eq_true h17
        have hi4 : i < 4 := by omega
        have hqi := okP_at h14q i
        refine RunC.skip ?_
        refine Ends.then ?_
        refine RunC.seq ?_
        refine RunC.block ?_
        refine RunC.region ?_
        refine RunL.still rfl rfl rfl (Still.move rfl rfl) ?_
        refine RunL.still rfl rfl rfl (Still.move rfl rfl) ?_
        refine RunL.still rfl rfl rfl (Still.indexArrNL rfl rfl rfl Tryz.underlying32 Tryz.sizeOf3 (by omega)) ?_
        refine RunL.still rfl rfl rfl (Still.load (v := iv (q.at i)) rfl rfl Tryz.isAgg3 (fun _ hs => cell_nth (hs.at (i := 2) rfl) (nth_p4 hi4))) ?_
        refine RunL.still rfl rfl rfl (Still.indexArrEL (q.at i).toNat rfl rfl rfl Tryz.underlying32 Tryz.sizeOf3 (by omega) (by omega)) ?_
        refine RunL.still rfl rfl rfl (Still.load (v := iv (p.at (q.at i).toNat)) rfl rfl Tryz.isAgg3 (fun _ hs => cell_nth (hs.at (i := 3) rfl) (nth_p4 (by omega)))) ?_
        refine RunL.still rfl rfl rfl (Still.indexArrNL rfl rfl rfl Tryz.underlying32 Tryz.sizeOf3 (by omega)) ?_
        refine RunL.does0 rfl rfl (Does.store1 rfl rfl rfl (i := 0) rfl Tryz.sizeOf3 rfl (Nat.ble_eq_true_of_le (show 0 + i * 1 + 1 ≤ 4 by omega))) (fun _ _ => ?_)
        refine RunL.conv (fun _ hs => hs.re 0 rfl (show _ = HL.obj b5 (.cells (cTo (compP p q) (i + 1)) 32 (0, 0)) from congrArg (fun z => HL.obj b5 (.cells z 32 (0, 0))) (cTo_set hi4 (comp_at p q hi4)))) ?_
        refine RunL.nil ?_
        refine Ends.block ?_
        refine Ends.then ?_
        refine RunC.region ?_
        refine RunL.still rfl rfl rfl (Still.move rfl rfl) ?_
        refine RunL.still rfl rfl rfl (Still.add rfl rfl rfl (fits64 (by omega) (by omega))) ?_
        refine RunL.still rfl rfl rfl (Still.assign rfl rfl) ?_
        refine RunL.nil ?_
        refine Ends.again (i + 1) ?_ ?_ (Fr.Sub.app ?_ ?_) ?_
        · show _; omega
        · show _ < _; omega
        · exact Fr.Sub.cons rfl (Fr.Sub.nil _)
        · exact Fr.Sub.cons rfl (Fr.Sub.cons rfl (Fr.Sub.cons rfl (Fr.Sub.cons rfl (Fr.Sub.nil _))))
        · exact HSub.pick 0 rfl (HSub.pick 0 rfl (HSub.pick 0 rfl (HSub.pick 0 rfl (HSub.nil _))))
      · have h17 := of_decide_eq_false h17
        obtain rfl : i = 4 := by omega
        refine RunC.exit ?_
        refine Ends.then_exit ?_
        refine Ends.then_exit ?_
        refine Ends.block_exit ?_
        refine Ends.then ?_
        refine RunC.seq ?_
        refine RunC.region ?_
        refine RunL.still rfl rfl rfl (Still.loads rfl rfl Tryz.isAgg32 Tryz.sizeOf32 (vs := [_, _, _, _]) rfl (fun _ hs => cells_nth (hs.at (i := 0) rfl) ⟨rfl, ⟨rfl, ⟨rfl, ⟨rfl, trivial⟩⟩⟩⟩)) ?_
        refine RunL.does0 rfl rfl (Does.store rfl rfl rfl (i := 1) rfl Tryz.sizeOf32 rfl (rfl) rfl) (fun _ _ => ?_)
        refine RunL.nil ?_
        refine Ends.then ?_
        refine RunC.ret ?_
        refine Ends.leave (.inl rfl) (fun _ _ ok => results1 Tryz.results37 (Holds.cell rfl (fun _ hs => load_cells (vs := [_, _, _, _]) Tryz.isAgg32 Tryz.sizeOf32 rfl (cells_nth (hs.at (i := 1) rfl) ⟨rfl, ⟨rfl, ⟨rfl, ⟨rfl, trivial⟩⟩⟩⟩))) ok) (fun w3 hs => ?_)
        exact Ret.intro () trivial (by rw [show compR p q = compP p q from if_pos ⟨h10p, h14q⟩]; rfl) (HSub.nil _) hs

theorem gl_inverse (p : P4) (w : World) (hp : okP p = true) : Gives Tryz.prog 48 #[p4V p] w Nil (fun _ : Unit => True) (fun _ => p4V (invP p)) (fun _ => []) := by
  refine fn_of_run (S := Nil) (args := [p4V p]) (n := 16) (L := []) Tryz.func48 rfl Tryz.ntmps48 (Nat.le_of_ble_eq_true rfl) (Sym.nil _ _) ?_
  change RunC _ _ _ [(0, _)] _
  refine RunC.seq ?_
  refine RunC.region ?_
  refine RunL.grows rfl rfl rfl (Grows.box rfl rfl) (fun b1 _ => ?_)
  refine RunL.grows rfl rfl rfl (Grows.alloc rfl Tryz.zeroValue32) (fun b2 _ => ?_)
  refine RunL.nil ?_
  refine Ends.then ?_
  refine RunC.seq ?_
  refine RunC.region ?_
  refine RunL.grows rfl rfl rfl (Grows.alloc rfl Tryz.zeroValue32) (fun b3 _ => ?_)
  refine RunL.nil ?_
  refine Ends.then ?_
  refine RunC.seq ?_
  refine RunC.seq ?_
  refine RunC.region ?_
  refine RunL.still rfl rfl rfl (Still.loads rfl rfl Tryz.isAgg32 Tryz.sizeOf32 (vs := [_, _, _, _]) rfl (fun _ hs => cells_nth (hs.at (i := 2) rfl) ⟨rfl, ⟨rfl, ⟨rfl, ⟨rfl, trivial⟩⟩⟩⟩)) ?_
  refine RunL.still rfl rfl rfl (Still.move rfl rfl) ?_
  refine RunL.nil ?_
  refine Ends.then ?_
  refine RunC.block ?_
  refine RunC.loop2 (γ := Nat) (keep := [(2, _), (3, _), (6, _)]) (hkeep := [_, _]) (fun i => i ≤ 4) (fun i => 4 - i) (fun i => [(7, iv i)]) (fun i => [HL.obj b3 (.cells (invA p i) 32 (0, 0))]) 0 (by omega) (Fr.Sub.cons rfl (Fr.Sub.nil _)) (Fr.Sub.cons rfl (Fr.Sub.cons rfl (Fr.Sub.cons rfl (Fr.Sub.nil _)))) (HSub.pick 0 rfl (HSub.pick 0 rfl (HSub.pick 0 rfl (HSub.nil _)))) ?_
  rintro i hi
  refine RunC.seq ?_
  refine RunC.region ?_
  refine RunL.still rfl rfl rfl (Still.lss rfl rfl rfl) ?_
  refine RunL.nil ?_
  refine Ends.then ?_
  refine RunC.seq ?_
  refine RunC.cond rfl (fun h8 => ?_) (fun h8 => ?_)
  · have h8 := of_decide_eq_true h8
    have hi4 : i < 4 := by omega
    have hpi := okP_at hp i
    refine RunC.skip ?_
    refine Ends.then ?_
    refine RunC.seq ?_
    refine RunC.block ?_
    refine RunC.seq ?_
    refine RunC.region ?_
    refine RunL.still rfl rfl rfl (Still.move rfl rfl) ?_
    refine RunL.still rfl rfl rfl (Still.index rfl rfl rfl Tryz.underlying32 Tryz.sizeOf3 Tryz.isAgg3 ⟨by omega, by omega⟩ (p4_indexN hi4)) ?_
    refine RunL.still rfl rfl rfl (Still.assign rfl rfl) ?_
    refine RunL.still rfl rfl rfl (Still.assign rfl rfl) ?_
    refine RunL.nil ?_
    refine Ends.then ?_
    refine RunC.region ?_
    refine RunL.still rfl rfl rfl (Still.move rfl rfl) ?_
    refine RunL.still rfl rfl rfl (Still.move rfl rfl) ?_
    refine RunL.still rfl rfl rfl (Still.indexArrEL (p.at i).toNat rfl rfl rfl Tryz.underlying32 Tryz.sizeOf3 (by omega) (by omega)) ?_
    refine RunL.does0 rfl rfl (Does.store1 rfl rfl rfl (i := 0) rfl Tryz.sizeOf3 rfl (Nat.ble_eq_true_of_le (show 0 + (p.at i).toNat * 1 + 1 ≤ 4 by omega))) (fun _ _ => ?_)
    refine RunL.conv (fun _ hs => hs.re 0 rfl (show _ = HL.obj b3 (.cells (invA p (i + 1)) 32 (0, 0)) from congrArg (fun z => HL.obj b3 (.cells z 32 (0, 0))) (invA_set (by omega)))) ?_
    refine RunL.nil ?_
    refine Ends.block ?_
    refine Ends.then ?_
    refine RunC.region ?_
    refine RunL.still rfl rfl rfl (Still.add rfl rfl rfl (fits64 (by omega) (by omega))) ?_
    refine RunL.still rfl rfl rfl (Still.move rfl rfl) ?_
    refine RunL.nil ?_
    refine Ends.again (i + 1) ?_ ?_ (Fr.Sub.app ?_ ?_) ?_
    · show _; omega
    · show _ < _; omega
    · exact Fr.Sub.cons rfl (Fr.Sub.nil _)
    · exact Fr.Sub.cons rfl (Fr.Sub.cons rfl (Fr.Sub.cons rfl (Fr.Sub.nil _)))
    · exact HSub.pick 0 rfl (HSub.pick 0 rfl (HSub.pick 0 rfl (HSub.nil _)))
  · have h8 := of_decide_eq_false h8
    obtain rfl : i = 4 := by omega
    refine RunC.exit ?_
    refine Ends.then_exit ?_
    refine Ends.then_exit ?_
    refine Ends.block_exit ?_
    refine Ends.then ?_
    refine RunC.seq ?_
    refine RunC.conv (fun _ hs => hs.re 0 rfl (show _ = HL.obj b3 (.cells #[iv (invP p).a0, iv (invP p).a1, iv (invP p).a2, iv (invP p).a3] 32 (0, 0)) by rw [invA_four])) ?_
    refine RunC.region ?_
    refine RunL.still rfl rfl rfl (Still.loads rfl rfl Tryz.isAgg32 Tryz.sizeOf32 (vs := [_, _, _, _]) rfl (fun _ hs => cells_nth (hs.at (i := 0) rfl) ⟨rfl, ⟨rfl, ⟨rfl, ⟨rfl, trivial⟩⟩⟩⟩)) ?_
    refine RunL.does0 rfl rfl (Does.store rfl rfl rfl (i := 1) rfl Tryz.sizeOf32 rfl (rfl) rfl) (fun _ _ => ?_)
    refine RunL.nil ?_
    refine Ends.then ?_
    refine RunC.ret ?_
    refine Ends.leave (.inl rfl) (fun _ _ ok => results1 Tryz.results48 (Holds.cell rfl (fun _ hs => load_cells (vs := [_, _, _, _]) Tryz.isAgg32 Tryz.sizeOf32 rfl (cells_nth (hs.at (i := 1) rfl) ⟨rfl, ⟨rfl, ⟨rfl, ⟨rfl, trivial⟩⟩⟩⟩))) ok) (fun w1 hs => ?_)
    exact Ret.intro () trivial rfl (HSub.nil _) hs

theorem rf_Inverse (p : P4) (w : World) : Gives Tryz.prog 38 #[p4V p] w Nil (fun _ : Unit => True) (fun _ => p4V (invR p)) (fun _ => []) := by
  refine fn_of_run (S := Nil) (args := [p4V p]) (n := 19) (L := []) Tryz.func38 rfl Tryz.ntmps38 (Nat.le_of_ble_eq_true rfl) (Sym.nil _ _) ?_
  change RunC _ _ _ [(0, _)] _
  refine RunC.seq ?_
  refine RunC.region ?_
  refine RunL.grows rfl rfl rfl (Grows.box rfl rfl) (fun b1 _ => ?_)
  refine RunL.grows rfl rfl rfl (Grows.alloc rfl Tryz.zeroValue32) (fun b2 _ => ?_)
  refine RunL.nil ?_
  refine Ends.then ?_
  refine RunC.seq ?_
  refine RunC.region ?_
  refine RunL.grows rfl rfl rfl (Grows.alloc rfl Tryz.zeroValue32) (fun b3 _ => ?_)
  refine RunL.nil ?_
  refine Ends.then ?_
  refine RunC.seq ?_
  refine RunC.seq ?_
  refine RunC.region ?_
  refine RunL.still rfl rfl rfl (Still.loads rfl rfl Tryz.isAgg32 Tryz.sizeOf32 (vs := [_, _, _, _]) rfl (fun _ hs => cells_nth (hs.at (i := 2) rfl) ⟨rfl, ⟨rfl, ⟨rfl, ⟨rfl, trivial⟩⟩⟩⟩)) ?_
  refine RunL.grows rfl rfl rfl (Grows.call (vs := #[_]) rfl rfl Tryz.call44 (fun w hs => rf_Valid p w)) (fun _ _ => ?_)
  refine RunL.still rfl rfl rfl (Still.not rfl rfl) ?_
  refine RunL.nil ?_
  refine Ends.then ?_
  refine RunC.cond rfl (fun h7 => ?_) (fun h7 => ?_)
  · have hp : okP p = false := by simpa using h7
    refine RunC.seq ?_
    refine RunC.region ?_
    refine RunL.still rfl rfl rfl (Still.loads rfl rfl Tryz.isAgg32 Tryz.sizeOf32 (vs := [_, _, _, _]) rfl (fun _ hs => cells_nth (hs.at (i := 0) rfl) ⟨rfl, ⟨rfl, ⟨rfl, ⟨rfl, trivial⟩⟩⟩⟩)) ?_
    refine RunL.does0 rfl rfl (Does.store rfl rfl rfl (i := 1) rfl Tryz.sizeOf32 rfl (rfl) rfl) (fun _ _ => ?_)
    refine RunL.nil ?_
    refine Ends.then ?_
    refine RunC.ret ?_
    refine Ends.then_ret ?_
    refine Ends.leave (.inl rfl) (fun _ _ ok => results1 Tryz.results38 (Holds.cell rfl (fun _ hs => load_cells (vs := [_, _, _, _]) Tryz.isAgg32 Tryz.sizeOf32 rfl (cells_nth (hs.at (i := 1) rfl) ⟨rfl, ⟨rfl, ⟨rfl, ⟨rfl, trivial⟩⟩⟩⟩))) ok) (fun w1 hs => ?_)
    exact Ret.intro () trivial (by rw [invR, if_neg (by simp [hp])]; rfl) (HSub.nil _) hs
  · have hp : okP p = true := by simpa using h7
    refine RunC.skip ?_
    refine Ends.then ?_
    refine RunC.seq ?_
    refine RunC.seq ?_
    refine RunC.region ?_
    refine RunL.still rfl rfl rfl (Still.assign rfl rfl) ?_
    refine RunL.nil ?_
    refine Ends.then ?_
    refine RunC.block ?_
    refine RunC.loop2 (γ := Nat) (keep := [(1, _), (2, _), (3, _)]) (hkeep := [_, _]) (fun i => i ≤ 4) (fun i => 4 - i) (fun i => [(4, iv i)]) (fun i => [HL.obj b3 (.cells (invA p i) 32 (0, 0))]) 0 (by omega) (Fr.Sub.cons rfl (Fr.Sub.nil _)) (Fr.Sub.cons rfl (Fr.Sub.cons rfl (Fr.Sub.cons rfl (Fr.Sub.nil _)))) (HSub.pick 0 rfl (HSub.pick 0 rfl (HSub.pick 0 rfl (HSub.nil _)))) ?_
    rintro i hi
    refine RunC.seq ?_
    refine RunC.seq ?_
    refine RunC.region ?_
    refine RunL.still rfl rfl rfl (Still.move rfl rfl) ?_
    refine RunL.still rfl rfl rfl (Still.lss rfl rfl rfl) ?_
    refine RunL.nil ?_
    refine Ends.then ?_
    refine RunC.cond rfl (fun h10 => ?_) (fun h10 => ?_)
    · have h10 := of_decide_eq_true h10
      have hi4 : i < 4 := by omega
      have hpi := okP_at hp i
      refine RunC.skip ?_
      refine Ends.then ?_
      refine RunC.seq ?_
      refine RunC.block ?_
      refine RunC.region ?_
      refine RunL.still rfl rfl rfl (Still.move rfl rfl) ?_
      refine RunL.still rfl rfl rfl (Still.indexArrNL rfl rfl rfl Tryz.underlying32 Tryz.sizeOf3 (by omega)) ?_
      refine RunL.still rfl rfl rfl (Still.load (v := iv (p.at i)) rfl rfl Tryz.isAgg3 (fun _ hs => cell_nth (hs.at (i := 2) rfl) (nth_p4 hi4))) ?_
      refine RunL.still rfl rfl rfl (Still.move rfl rfl) ?_
      refine RunL.still rfl rfl rfl (Still.indexArrEL (p.at i).toNat rfl rfl rfl Tryz.underlying32 Tryz.sizeOf3 (by omega) (by omega)) ?_
      refine RunL.does0 rfl rfl (Does.store1 rfl rfl rfl (i := 0) rfl Tryz.sizeOf3 rfl (Nat.ble_eq_true_of_le (show 0 + (p.at i).toNat * 1 + 1 ≤ 4 by omega))) (fun _ _ => ?_)
      refine RunL.conv (fun _ hs => hs.re 0 rfl (show _ = HL.obj b3 (.cells (invA p (i + 1)) 32 (0, 0)) from congrArg (fun z => HL.obj b3 (.cells z 32 (0, 0))) (invA_set (by omega)))) ?_
      refine RunL.nil ?_
      refine Ends.block ?_
      refine Ends.then ?_
      refine RunC.region ?_
      refine RunL.still rfl rfl rfl (Still.move rfl rfl) ?_
      refine RunL.still rfl rfl rfl (Still.add rfl rfl rfl (fits64 (by omega) (by omega))) ?_
      refine RunL.still rfl rfl rfl (Still.assign rfl rfl) ?_
      refine RunL.nil ?_
      refine Ends.again (i + 1) ?_ ?_ (Fr.Sub.app ?_ ?_) ?_
      · show _; omega
      · show _ < _; omega
      · exact Fr.Sub.cons rfl (Fr.Sub.nil _)
      · exact Fr.Sub.cons rfl (Fr.Sub.cons rfl (Fr.Sub.cons rfl (Fr.Sub.nil _)))
      · exact HSub.pick 0 rfl (HSub.pick 0 rfl (HSub.pick 0 rfl (HSub.nil _)))
    · have h10 := of_decide_eq_false h10
      obtain rfl : i = 4 := by omega
      refine RunC.exit ?_
      refine Ends.then_exit ?_
      refine Ends.then_exit ?_
      refine Ends.block_exit ?_
      refine Ends.then ?_
      refine RunC.seq ?_
      refine RunC.conv (fun _ hs => hs.re 0 rfl (show _ = HL.obj b3 (.cells #[iv (invP p).a0, iv (invP p).a1, iv (invP p).a2, iv (invP p).a3] 32 (0, 0)) by rw [invA_four])) ?_
      refine RunC.region ?_
      refine RunL.still rfl rfl rfl (Still.loads rfl rfl Tryz.isAgg32 Tryz.sizeOf32 (vs := [_, _, _, _]) rfl (fun _ hs => cells_nth (hs.at (i := 0) rfl) ⟨rfl, ⟨rfl, ⟨rfl, ⟨rfl, trivial⟩⟩⟩⟩)) ?_
      refine RunL.does0 rfl rfl (Does.store rfl rfl rfl (i := 1) rfl Tryz.sizeOf32 rfl (rfl) rfl) (fun _ _ => ?_)
      refine RunL.nil ?_
      refine Ends.then ?_
      refine RunC.ret ?_
      refine Ends.leave (.inl rfl) (fun _ _ ok => results1 Tryz.results38 (Holds.cell rfl (fun _ hs => load_cells (vs := [_, _, _, _]) Tryz.isAgg32 Tryz.sizeOf32 rfl (cells_nth (hs.at (i := 1) rfl) ⟨rfl, ⟨rfl, ⟨rfl, ⟨rfl, trivial⟩⟩⟩⟩))) ok) (fun w2 hs => ?_)
      exact Ret.intro () trivial (by rw [invR, if_pos hp]) (HSub.nil _) hs

theorem gl_sign (p : P4) (w : World) : Gives Tryz.prog 46 #[p4V p] w Nil (fun _ : Unit => True) (fun _ => iv (sgnP p)) (fun _ => []) := by
  refine fn_of_run (S := Nil) (args := [p4V p]) (n := 25) (L := []) Tryz.func46 rfl Tryz.ntmps46 (Nat.le_of_ble_eq_true rfl) (Sym.nil _ _) ?_
  change RunC _ _ _ [(0, _)] _
  refine RunC.seq ?_
  refine RunC.region ?_
  refine RunL.grows rfl rfl rfl (Grows.box rfl rfl) (fun b1 _ => ?_)
  refine RunL.still rfl rfl rfl (Still.assign rfl rfl) ?_
  refine RunL.nil ?_
  refine Ends.then ?_
  refine RunC.seq ?_
  refine RunC.region ?_
  refine RunL.still rfl rfl rfl (Still.assign rfl rfl) ?_
  refine RunL.nil ?_
  refine Ends.then ?_
  refine RunC.seq ?_
  refine RunC.seq ?_
  refine RunC.region ?_
  refine RunL.still rfl rfl rfl (Still.move rfl rfl) ?_
  refine RunL.nil ?_
  refine Ends.then ?_
  refine RunC.block ?_
  refine RunC.loop2 (γ := Nat) (keep := [(1, _)]) (hkeep := [_]) (fun i => i ≤ 4) (fun i => 4 - i) (fun i => [(3, iv (sgnTo p i)), (6, iv i)]) (fun i => []) 0 (by omega) (Fr.Sub.cons rfl (Fr.Sub.cons rfl (Fr.Sub.nil _))) (Fr.Sub.cons rfl (Fr.Sub.nil _)) (HSub.pick 0 rfl (HSub.nil _)) ?_
  rintro i hi
  refine RunC.seq ?_
  refine RunC.region ?_
  refine RunL.still rfl rfl rfl (Still.lss rfl rfl rfl) ?_
  refine RunL.nil ?_
  refine Ends.then ?_
  refine RunC.seq ?_
  refine RunC.cond rfl (fun h7 => ?_) (fun h7 => ?_)
  · have h7 := of_decide_eq_true h7
    have hi4 : i < 4 := by omega
    refine RunC.skip ?_
    refine Ends.then ?_
    refine RunC.seq ?_
    refine RunC.block ?_
    refine RunC.seq ?_
    refine RunC.region ?_
    refine RunL.still rfl rfl rfl (Still.move rfl rfl) ?_
    refine RunL.still rfl rfl rfl (Still.assign rfl rfl) ?_
    refine RunL.nil ?_
    refine Ends.then ?_
    refine RunC.seq ?_
    refine RunC.region ?_
    refine RunL.still rfl rfl rfl (Still.move rfl rfl) ?_
    refine RunL.still rfl rfl rfl (Still.move rfl rfl) ?_
    refine RunL.nil ?_
    refine Ends.then ?_
    refine RunC.block ?_
    refine RunC.loop2 (γ := Nat) (keep := [(1, _), (4, _), (6, _), (9, _)]) (hkeep := [_]) (fun k => k ≤ i) (fun k => i - k) (fun k => [(3, iv (sgnRow p i (sgnTo p i) k)), (10, iv k)]) (fun k => []) 0 (by omega) (Fr.Sub.cons rfl (Fr.Sub.cons rfl (Fr.Sub.nil _))) (Fr.Sub.cons rfl (Fr.Sub.cons rfl (Fr.Sub.cons rfl (Fr.Sub.cons rfl (Fr.Sub.nil _))))) (HSub.pick 0 rfl (HSub.nil _)) ?_
    rintro k hk
    have hs1 := sgnRow_one (p := p) (i := i) (sgnTo_one p i) k
    refine RunC.seq ?_
    refine RunC.region ?_
    refine RunL.still rfl rfl rfl (Still.lss rfl rfl rfl) ?_
    refine RunL.nil ?_
    refine Ends.then ?_
    refine RunC.seq ?_
    refine RunC.cond rfl (fun h11 => ?_) (fun h11 => ?_)
    · have h11 := of_decide_eq_true h11
      refine RunC.skip ?_
      refine Ends.then ?_
      refine RunC.seq ?_
      refine RunC.block ?_
      refine RunC.seq ?_
      refine RunC.region ?_
      refine RunL.still rfl rfl rfl (Still.move rfl rfl) ?_
      refine RunL.still rfl rfl rfl (Still.assign rfl rfl) ?_
      refine RunL.nil ?_
      refine Ends.then ?_
      refine RunC.seq ?_
      refine RunC.draw 6 (.still 0 (.still 1 (.still 2 (.still 3 (.still 4 (.still 5 .done)))))) (by kernel_rfl) (by kernel_rfl) ?_
      refine RunG.still rfl rfl rfl rfl (Still.move rfl rfl) ?_
      refine RunG.still rfl rfl rfl rfl (Still.indexArrNL rfl rfl rfl Tryz.underlying32 Tryz.sizeOf3 (by omega)) ?_
      refine RunG.still rfl rfl rfl rfl (Still.load (v := iv (p.at k)) rfl rfl Tryz.isAgg3 (fun _ hs => cell_nth (hs.at (i := 0) rfl) (nth_p4 (by omega)))) ?_
      refine RunG.still rfl rfl rfl rfl (Still.move rfl rfl) ?_
      refine RunG.still rfl rfl rfl rfl (Still.indexArrNL rfl rfl rfl Tryz.underlying32 Tryz.sizeOf3 (by omega)) ?_
      refine RunG.still rfl rfl rfl rfl (Still.load (v := iv (p.at i)) rfl rfl Tryz.isAgg3 (fun _ hs => cell_nth (hs.at (i := 0) rfl) (nth_p4 (by omega)))) ?_
      refine RunG.done ?_
      show RunL _ _ _ [_] _ _
      refine RunL.still rfl rfl rfl (Still.gtr rfl rfl rfl) ?_
      refine RunL.nil ?_
      refine Ends.then ?_
      refine RunC.cond rfl (fun h19 => ?_) (fun h19 => ?_)
      · have h19 := of_decide_eq_true h19
        refine RunC.region ?_
        refine RunL.still rfl rfl rfl (Still.move rfl rfl) ?_
        refine RunL.still rfl rfl rfl (Still.neg rfl rfl (fits64 (by omega) (by omega))) ?_
        refine RunL.still rfl rfl rfl (Still.assign rfl rfl) ?_
        refine RunL.nil ?_
        refine Ends.block ?_
        refine Ends.then ?_
        refine RunC.region ?_
        refine RunL.still rfl rfl rfl (Still.add rfl rfl rfl (fits64 (by omega) (by omega))) ?_
        refine RunL.still rfl rfl rfl (Still.move rfl rfl) ?_
        refine RunL.nil ?_
        refine Ends.again (k + 1) ?_ ?_ (Fr.Sub.app ?_ ?_) ?_
        · show _; omega
        · show _ < _; omega
        · exact Fr.Sub.cons (by rw [sgnRow, if_pos (by omega)]; rfl) (Fr.Sub.cons rfl (Fr.Sub.nil _))
        · exact Fr.Sub.cons rfl (Fr.Sub.cons rfl (Fr.Sub.cons rfl (Fr.Sub.cons rfl (Fr.Sub.nil _))))
        · exact HSub.pick 0 rfl (HSub.nil _)
      · have h19 := of_decide_eq_false h19
        refine RunC.skip ?_
        refine Ends.block ?_
        refine Ends.then ?_
        refine RunC.region ?_
        refine RunL.still rfl rfl rfl (Still.add rfl rfl rfl (fits64 (by omega) (by omega))) ?_
        refine RunL.still rfl rfl rfl (Still.move rfl rfl) ?_
        refine RunL.nil ?_
        refine Ends.again (k + 1) ?_ ?_ (Fr.Sub.app ?_ ?_) ?_
        · show _; omega
        · show _ < _; omega
        · exact Fr.Sub.cons (by rw [sgnRow, if_neg (by omega)]; rfl) (Fr.Sub.cons rfl (Fr.Sub.nil _))
        · exact Fr.Sub.cons rfl (Fr.Sub.cons rfl (Fr.Sub.cons rfl (Fr.Sub.cons rfl (Fr.Sub.nil _))))
        · exact HSub.pick 0 rfl (HSub.nil _)
    · have h11 := of_decide_eq_false h11
      refine RunC.exit ?_
      refine Ends.then_exit ?_
      refine Ends.then_exit ?_
      refine Ends.block_exit ?_
      refine Ends.block ?_
      refine Ends.then ?_
      refine RunC.region ?_
      refine RunL.still rfl rfl rfl (Still.add rfl rfl rfl (fits64 (by omega) (by omega))) ?_
      refine RunL.still rfl rfl rfl (Still.move rfl rfl) ?_
      refine RunL.nil ?_
      obtain rfl : i = k := by omega
      refine Ends.again (i + 1) ?_ ?_ (Fr.Sub.app ?_ ?_) ?_
      · show _; omega
      · show _ < _; omega
      · exact Fr.Sub.cons rfl (Fr.Sub.cons rfl (Fr.Sub.nil _))
      · exact Fr.Sub.cons rfl (Fr.Sub.nil _)
      · exact HSub.pick 0 rfl (HSub.nil _)
  · have h7 := of_decide_eq_false h7
    obtain rfl : i = 4 := by omega
    refine RunC.exit ?_
    refine Ends.then_exit ?_
    refine Ends.then_exit ?_
    refine Ends.block_exit ?_
    refine Ends.then ?_
    refine RunC.seq ?_
    refine RunC.region ?_
    refine RunL.still rfl rfl rfl (Still.move rfl rfl) ?_
    refine RunL.still rfl rfl rfl (Still.assign rfl rfl) ?_
    refine RunL.nil ?_
    refine Ends.then ?_
    refine RunC.ret ?_
    refine Ends.leave (.inl rfl) (fun _ _ ok => results1 Tryz.results46 (Holds.tmp rfl) ok) (fun w1 hs => ?_)
    exact Ret.intro () trivial rfl (HSub.nil _) hs

theorem gl_Sign (p : P4) (w : World) : Gives Tryz.prog 42 #[p4V p] w Nil (fun _ : Unit => True) (fun _ => iv (sgnR p)) (fun _ => []) := by
  refine fn_of_run (S := Nil) (args := [p4V p]) (n := 8) (L := []) Tryz.func42 rfl Tryz.ntmps42 (Nat.le_of_ble_eq_true rfl) (Sym.nil _ _) ?_
  change RunC _ _ _ [(0, _)] _
  refine RunC.seq ?_
  refine RunC.region ?_
  refine RunL.grows rfl rfl rfl (Grows.box rfl rfl) (fun b1 _ => ?_)
  refine RunL.still rfl rfl rfl (Still.assign rfl rfl) ?_
  refine RunL.nil ?_
  refine Ends.then ?_
  refine RunC.seq ?_
  refine RunC.seq ?_
  refine RunC.region ?_
  refine RunL.still rfl rfl rfl (Still.loads rfl rfl Tryz.isAgg32 Tryz.sizeOf32 (vs := [_, _, _, _]) rfl (fun _ hs => cells_nth (hs.at (i := 0) rfl) ⟨rfl, ⟨rfl, ⟨rfl, ⟨rfl, trivial⟩⟩⟩⟩)) ?_
  refine RunL.grows rfl rfl rfl (Grows.call (vs := #[_]) rfl rfl Tryz.call43 (fun w hs => gl_Valid p w)) (fun _ _ => ?_)
  refine RunL.still rfl rfl rfl (Still.not rfl rfl) ?_
  refine RunL.nil ?_
  refine Ends.then ?_
  refine RunC.cond rfl (fun h5 => ?_) (fun h5 => ?_)
  · have hp : okP p = false := by simpa using h5
    refine RunC.seq ?_
    refine RunC.region ?_
    refine RunL.still rfl rfl rfl (Still.assign rfl rfl) ?_
    refine RunL.nil ?_
    refine Ends.then ?_
    refine RunC.ret ?_
    refine Ends.then_ret ?_
    refine Ends.leave (.inl rfl) (fun _ _ ok => results1 Tryz.results42 (Holds.tmp rfl) ok) (fun w1 hs => ?_)
    exact Ret.intro () trivial (by rw [sgnR, if_neg (by simp [hp])]) (HSub.nil _) hs
  · have hp : okP p = true := by simpa using h5
    refine RunC.skip ?_
    refine Ends.then ?_
    refine RunC.seq ?_
    refine RunC.region ?_
    refine RunL.still rfl rfl rfl (Still.loads rfl rfl Tryz.isAgg32 Tryz.sizeOf32 (vs := [_, _, _, _]) rfl (fun _ hs => cells_nth (hs.at (i := 0) rfl) ⟨rfl, ⟨rfl, ⟨rfl, ⟨rfl, trivial⟩⟩⟩⟩)) ?_
    refine RunL.grows rfl rfl rfl (Grows.call (vs := #[_]) rfl rfl Tryz.call46 (fun w hs => gl_sign p w)) (fun _ _ => ?_)
    refine RunL.still rfl rfl rfl (Still.assign rfl rfl) ?_
    refine RunL.nil ?_
    refine Ends.then ?_
    refine RunC.ret ?_
    refine Ends.leave (.inl rfl) (fun _ _ ok => results1 Tryz.results42 (Holds.tmp rfl) ok) (fun w2 hs => ?_)
    exact Ret.intro () trivial (by rw [sgnR, if_pos hp]) (HSub.nil _) hs

theorem rf_Identity (w : World) : Gives Tryz.prog 40 #[] w Nil (fun _ : Unit => True) (fun _ => p4V idP) (fun _ => []) := by
  refine fn_of_run (S := Nil) (args := []) (n := 2) (L := []) Tryz.func40 rfl Tryz.ntmps40 (Nat.le_of_ble_eq_true rfl) (Sym.nil _ _) ?_
  change RunC _ _ _ [] _
  refine RunC.seq ?_
  refine RunC.region ?_
  refine RunL.grows rfl rfl rfl (Grows.alloc rfl Tryz.zeroValue32) (fun b0 _ => ?_)
  refine RunL.nil ?_
  refine Ends.then ?_
  refine RunC.seq ?_
  refine RunC.region ?_
  refine RunL.still rfl rfl rfl (Still.build_1_1_1_1 (fun x0_0 x1_0 x2_0 x3_0 => .agg #[x0_0, x1_0, x2_0, x3_0]) rfl rfl rfl rfl rfl (fun _ => by kernel_rfl)) ?_
  refine RunL.does0 rfl rfl (Does.store rfl rfl rfl (i := 0) rfl Tryz.sizeOf32 rfl (rfl) rfl) (fun _ _ => ?_)
  refine RunL.nil ?_
  refine Ends.then ?_
  refine RunC.ret ?_
  refine Ends.leave (.inl rfl) (fun _ _ ok => results1 Tryz.results40 (Holds.cell rfl (fun _ hs => load_cells (vs := [_, _, _, _]) Tryz.isAgg32 Tryz.sizeOf32 rfl (cells_nth (hs.at (i := 0) rfl) ⟨rfl, ⟨rfl, ⟨rfl, ⟨rfl, trivial⟩⟩⟩⟩))) ok) (fun w1 hs => ?_)
  exact Ret.intro () trivial rfl (HSub.nil _) hs

theorem gl_identity (w : World) : Gives Tryz.prog 47 #[] w Nil (fun _ : Unit => True) (fun _ => p4V idP) (fun _ => []) := by
  refine fn_of_run (S := Nil) (args := []) (n := 2) (L := []) Tryz.func47 rfl Tryz.ntmps47 (Nat.le_of_ble_eq_true rfl) (Sym.nil _ _) ?_
  change RunC _ _ _ [] _
  refine RunC.seq ?_
  refine RunC.region ?_
  refine RunL.grows rfl rfl rfl (Grows.alloc rfl Tryz.zeroValue32) (fun b0 _ => ?_)
  refine RunL.nil ?_
  refine Ends.then ?_
  refine RunC.seq ?_
  refine RunC.region ?_
  refine RunL.still rfl rfl rfl (Still.build_1_1_1_1 (fun x0_0 x1_0 x2_0 x3_0 => .agg #[x0_0, x1_0, x2_0, x3_0]) rfl rfl rfl rfl rfl (fun _ => by kernel_rfl)) ?_
  refine RunL.does0 rfl rfl (Does.store rfl rfl rfl (i := 0) rfl Tryz.sizeOf32 rfl (rfl) rfl) (fun _ _ => ?_)
  refine RunL.nil ?_
  refine Ends.then ?_
  refine RunC.ret ?_
  refine Ends.leave (.inl rfl) (fun _ _ ok => results1 Tryz.results47 (Holds.cell rfl (fun _ hs => load_cells (vs := [_, _, _, _]) Tryz.isAgg32 Tryz.sizeOf32 rfl (cells_nth (hs.at (i := 0) rfl) ⟨rfl, ⟨rfl, ⟨rfl, ⟨rfl, trivial⟩⟩⟩⟩))) ok) (fun w1 hs => ?_)
  exact Ret.intro () trivial rfl (HSub.nil _) hs

end Go.Proofs
/- Faces and the check of gluings: contracts of both texts. -/
namespace Go.Proofs
open Go Go.V
set_option maxRecDepth 20000
theorem eqF (d : Nat) (s a b c f s' a' b' c' f' : Int) (w : World) : (Op.equalIn (d + 3) 34 (.agg #[iv s, iv a, iv b, iv c, iv f]) (.agg #[iv s', iv a', iv b', iv c', iv f'])).run Tryz.prog w = .ok (decide (s = s' ∧ a = a' ∧ b = b' ∧ c = c' ∧ f = f')) w :=
  eq_oneFour Tryz.underlying34 Tryz.stoodInHeld34 Tryz.underlying3 Tryz.underlying32 Tryz.underlying3 (by kernel_rfl : Tryz.prog.info? 3 = some Tryz.t3) (by kernel_rfl) Tryz.sizeOf32 (by decide) (by decide) rfl rfl d s a b c f s' a' b' c' f' w

theorem gl_faces (base : Option Addr) (A : Addr) (cap : Nat) (g : Glu) (w : World) : Gives Tryz.prog 45 #[gluV base cap g] w Nil (fun _ : Nat => True) (fun b => .func (.func 70) #[] #[ptrV b]) (fun b => [HL.obj b (.cells #[.slice base g.length cap] 24 (0, 0))]) := by
  refine fn_of_run (S := Nil) (args := [gluV base cap g]) (n := 4) (L := []) Tryz.func45 rfl Tryz.ntmps45 (Nat.le_of_ble_eq_true rfl) (Sym.nil _ _) ?_
  change RunC _ _ _ [(0, _)] _
  refine RunC.seq ?_
  refine RunC.region ?_
  refine RunL.grows rfl rfl rfl (Grows.box rfl rfl) (fun b1 _ => ?_)
  refine RunL.still rfl rfl rfl (Still.assign rfl rfl) ?_
  refine RunL.nil ?_
  refine Ends.then ?_
  refine RunC.seq ?_
  refine RunC.region ?_
  refine RunL.still rfl rfl rfl (Still.makeFunc (vs := #[_]) rfl rfl) ?_
  refine RunL.still rfl rfl rfl (Still.assign rfl rfl) ?_
  refine RunL.nil ?_
  refine Ends.then ?_
  refine RunC.ret ?_
  refine Ends.leave (.inl rfl) (fun _ _ ok => results1 Tryz.results45 (Holds.tmp rfl) ok) (fun w1 hs => ?_)
  exact Ret.intro b1 trivial rfl (HSub.pick 0 rfl (HSub.nil _)) hs

theorem gl_faces1 (base : Option Addr) (A : Addr) (cap : Nat) (g : Glu) (l gb : Nat) {σ : Type} (s0 : σ) (jmp : σ → Option Code) (J : Nat → σ → HL) (w : World) (h0 : jmp s0 = none) (hJ : (J 0 s0).holds w) (hlt : ∀ b, (J 0 s0).supp b → b < w.heap.size) (hg : ∀ w', Old (J 0 s0).supp w w' → GluAt w' base A g)
  (hb : ∀ w', Old (J 0 s0).supp w w' → w'.cell? ⟨gb, 0, none⟩ = some (.slice base g.length cap))
  (hy : ∀ t f s, t < g.length → f < 4 → jmp s = none → ∀ w', Old (J 0 s0).supp w w' → (J (4 * t + f) s).holds w' → (∀ b, (J (4 * t + f) s).supp b → b < w'.heap.size ∧ (w.heap.size ≤ b ∨ (J 0 s0).supp b)) → YieldsJ Tryz.prog l #[.agg #[iv t, iv f], fcV (fAt g t f)] w' (J (4 * t + f) s).supp jmp (J (4 * t + f + 1))) :
  Gives Tryz.prog 70 #[.func (.yield l) #[] #[], ptrV gb] w (J 0 s0).supp (fun r : Nat × σ => jmp r.2 = none → r.1 = 4 * g.length) (fun _ => .tuple #[]) (fun r => [J r.1 r.2]) := by
  have hgw := hg w (Old.refl _ w)
  have hlen := hgw.len
  refine fn_of_run (S := (J 0 s0).supp) (args := [.func (.yield l) #[] #[], ptrV gb]) (n := 30) (L := [J 0 s0]) Tryz.func70 rfl Tryz.ntmps70 (Nat.le_of_ble_eq_true rfl) (Sym.own1 hJ hlt) ?_
  change RunC _ _ _ [(0, _), (1, _)] _
  refine RunC.seq ?_
  refine RunC.region ?_
  refine RunL.still rfl rfl rfl (Still.fieldAddrA (off := 0) rfl rfl Tryz.underlying24 rfl Tryz.sizeOf22 rfl) ?_
  refine RunL.still rfl rfl rfl (Still.load (v := .slice base g.length cap) rfl rfl Tryz.isAgg22 (fun _ hs => hb _ hs.old)) ?_
  refine RunL.still rfl rfl rfl (Still.lenSlice rfl rfl Tryz.underlying22) ?_
  refine RunL.still rfl rfl rfl (Still.move rfl rfl) ?_
  refine RunL.nil ?_
  refine Ends.then ?_
  refine RunC.block ?_
  refine RunC.loop2 (γ := Nat × σ) (keep := [(0, _), (1, _), (8, _)]) (hkeep := []) (fun (t, s) => t ≤ g.length ∧ jmp s = none) (fun (t, s) => g.length - t) (fun (t, s) => [(9, iv t)]) (fun (t, s) => [J (4 * t) s]) (0, s0) ⟨by omega, h0⟩ (Fr.Sub.cons rfl (Fr.Sub.nil _)) (Fr.Sub.cons rfl (Fr.Sub.cons rfl (Fr.Sub.cons rfl (Fr.Sub.nil _)))) (HSub.pick 0 rfl (HSub.nil _)) ?_
  rintro ⟨t, s⟩ ⟨ht, hjs⟩
  have ht : t ≤ g.length := ht
  have hjs : jmp s = none := hjs
  refine RunC.seq ?_
  refine RunC.region ?_
  refine RunL.still rfl rfl rfl (Still.lss rfl rfl rfl) ?_
  refine RunL.nil ?_
  refine Ends.then ?_
  refine RunC.seq ?_
  refine RunC.cond rfl (fun h10 => ?_) (fun h10 => ?_)
  · have h10 := of_decide_eq_true h10
    have htN : t < g.length := by omega
    obtain ⟨x, hx⟩ := get_of_lt (l := g) (i := t) (by omega)
    refine RunC.skip ?_
    refine Ends.then ?_
    refine RunC.seq ?_
    refine RunC.block ?_
    refine RunC.seq ?_
    refine RunC.region ?_
    refine RunL.still rfl rfl rfl (Still.move rfl rfl) ?_
    refine RunL.still rfl rfl rfl (Still.assign rfl rfl) ?_
    refine RunL.nil ?_
    refine Ends.then ?_
    refine RunC.seq ?_
    refine RunC.region ?_
    refine RunL.still rfl rfl rfl (Still.fieldAddrA (off := 0) rfl rfl Tryz.underlying24 rfl Tryz.sizeOf22 rfl) ?_
    refine RunL.still rfl rfl rfl (Still.load (v := .slice base g.length cap) rfl rfl Tryz.isAgg22 (fun _ hs => hb _ hs.old)) ?_
    refine RunL.still rfl rfl rfl (Still.move rfl rfl) ?_
    refine RunL.still rfl rfl rfl (Still.indexSliceN rfl rfl rfl Tryz.underlying22 Tryz.sizeOf35 (hgw.base (by omega)) (by omega)) ?_
    refine RunL.still rfl rfl rfl (Still.loads rfl rfl Tryz.isAgg35 Tryz.sizeOf35 (vs := [iv x.f0.tet, iv x.f0.p.a0, iv x.f0.p.a1, iv x.f0.p.a2, iv x.f0.p.a3, iv x.f1.tet, iv x.f1.p.a0, iv x.f1.p.a1, iv x.f1.p.a2, iv x.f1.p.a3, iv x.f2.tet, iv x.f2.p.a0, iv x.f2.p.a1, iv x.f2.p.a2, iv x.f2.p.a3, iv x.f3.tet, iv x.f3.p.a0, iv x.f3.p.a1, iv x.f3.p.a2, iv x.f3.p.a3]) rfl (fun _ hs => (hg _ hs.old).cell t x hx)) ?_
    refine RunL.still rfl rfl rfl (Still.move rfl rfl) ?_
    refine RunL.nil ?_
    refine Ends.then ?_
    refine RunC.block ?_
    refine RunC.loop2 (γ := Nat × σ) (keep := [(0, _), (1, _), (3, _), (8, _), (9, _), (16, _)]) (hkeep := []) (fun (f, s) => f ≤ 4 ∧ jmp s = none) (fun (f, s) => 4 - f) (fun (f, s) => [(17, iv f)]) (fun (f, s) => [J (4 * t + f) s]) (0, s) ⟨by omega, hjs⟩ (Fr.Sub.cons rfl (Fr.Sub.nil _)) (Fr.Sub.cons rfl (Fr.Sub.cons rfl (Fr.Sub.cons rfl (Fr.Sub.cons rfl (Fr.Sub.cons rfl (Fr.Sub.cons rfl (Fr.Sub.nil _))))))) (HSub.pick 0 rfl (HSub.nil _)) ?_
    rintro ⟨f, s⟩ ⟨hf, hjs⟩
    have hf : f ≤ 4 := hf
    have hjs : jmp s = none := hjs
    refine RunC.seq ?_
    refine RunC.region ?_
    refine RunL.still rfl rfl rfl (Still.lss rfl rfl rfl) ?_
    refine RunL.nil ?_
    refine Ends.then ?_
    refine RunC.seq ?_
    refine RunC.cond rfl (fun h18 => ?_) (fun h18 => ?_)
    · have h18 := of_decide_eq_true h18
      have hf4 : f < 4 := by omega
      refine RunC.skip ?_
      refine Ends.then ?_
      refine RunC.seq ?_
      refine RunC.block ?_
      refine RunC.seq ?_
      refine RunC.region ?_
      refine RunL.still rfl rfl rfl (Still.move rfl rfl) ?_
      refine RunL.still rfl rfl rfl (Still.indexAgg rfl rfl rfl Tryz.underlying35 Tryz.sizeOf34 Tryz.isAgg34 ⟨by omega, by omega⟩ (ttV_part x hf4)) ?_
      refine RunL.grows rfl rfl rfl (Grows.alloc rfl Tryz.zeroValue34) (fun b5 _ => ?_)
      refine RunL.still rfl rfl rfl (Still.assign rfl rfl) ?_
      refine RunL.does0 rfl rfl (Does.store rfl rfl rfl (i := 0) rfl Tryz.sizeOf34 rfl (rfl) rfl) (fun _ _ => ?_)
      refine RunL.nil ?_
      refine Ends.then ?_
      refine RunC.seq ?_
      refine RunC.region ?_
      refine RunL.still rfl rfl rfl (Still.move rfl rfl) ?_
      refine RunL.still rfl rfl rfl (Still.move rfl rfl) ?_
      refine RunL.still rfl rfl rfl (Still.move rfl rfl) ?_
      refine RunL.still rfl rfl rfl (Still.build_1_1 (fun x0_0 x1_0 => .agg #[x0_0, x1_0]) rfl rfl rfl (fun _ => by kernel_rfl)) ?_
      refine RunL.still rfl rfl rfl (Still.loads rfl rfl Tryz.isAgg34 Tryz.sizeOf34 (vs := [_, _, _, _, _]) rfl (fun _ hs => cells_nth (hs.at (i := 0) rfl) ⟨rfl, ⟨rfl, ⟨rfl, ⟨rfl, ⟨rfl, trivial⟩⟩⟩⟩⟩)) ?_
      refine RunL.does rfl rfl rfl (Does.yieldJ (l := l) (jmp := jmp) (H := J (4 * t + f + 1)) rfl rfl rfl rfl (i := 1) rfl (fun w hs => by have h := hy t f s htN hf4 hjs w hs.old (hs.at (i := 1) rfl) (hs.supp _ (List.mem_of_getElem? (i := 1) rfl)); rw [fAt_of hx] at h; exact h)) (fun s26 _ => ?_)
      refine RunL.still rfl rfl rfl (Still.not rfl rfl) ?_
      refine RunL.nil ?_
      refine Ends.then ?_
      refine RunC.cond rfl (fun h27 => ?_) (fun h27 => ?_)
      · skip
        refine RunC.ret ?_
        refine Ends.block_ret ?_
        refine Ends.then_ret ?_
        refine Ends.then_ret ?_
        refine Ends.block_ret ?_
        refine Ends.block_ret ?_
        refine Ends.then_ret ?_
        refine Ends.then_ret ?_
        refine Ends.block_ret ?_
        refine Ends.leave (.inl rfl) (fun _ _ ok => results0 Tryz.results70  ok) (fun w1 hs => ?_)
        exact Ret.intro (4 * t + f + 1, s26) (fun h => by have h : jmp s26 = none := h; simp [h] at h27) rfl (HSub.pick 1 rfl (HSub.nil _)) hs
      · skip
        refine RunC.skip ?_
        refine Ends.block ?_
        refine Ends.then ?_
        refine RunC.region ?_
        refine RunL.still rfl rfl rfl (Still.add rfl rfl rfl (fits64 (by omega) (by omega))) ?_
        refine RunL.still rfl rfl rfl (Still.move rfl rfl) ?_
        refine RunL.nil ?_
        refine Ends.again (f + 1, s26) ?_ ?_ (Fr.Sub.app ?_ ?_) ?_
        · exact ⟨by show f + 1 ≤ 4; omega, by simpa using h27⟩
        · show 4 - (f + 1) < 4 - f; omega
        · exact Fr.Sub.cons rfl (Fr.Sub.nil _)
        · exact Fr.Sub.cons rfl (Fr.Sub.cons rfl (Fr.Sub.cons rfl (Fr.Sub.cons rfl (Fr.Sub.cons rfl (Fr.Sub.cons rfl (Fr.Sub.nil _))))))
        · exact HSub.pick 1 rfl (HSub.nil _)
    · have h18 := of_decide_eq_false h18
      obtain rfl : f = 4 := by omega
      refine RunC.exit ?_
      refine Ends.then_exit ?_
      refine Ends.then_exit ?_
      refine Ends.block_exit ?_
      refine Ends.block ?_
      refine Ends.then ?_
      refine RunC.region ?_
      refine RunL.still rfl rfl rfl (Still.add rfl rfl rfl (fits64 (by omega) (by omega))) ?_
      refine RunL.still rfl rfl rfl (Still.move rfl rfl) ?_
      refine RunL.nil ?_
      refine Ends.again (t + 1, s) ?_ ?_ (Fr.Sub.app ?_ ?_) ?_
      · exact ⟨by show t + 1 ≤ _; omega, hjs⟩
      · show _ - (t + 1) < _ - t; omega
      · exact Fr.Sub.cons rfl (Fr.Sub.nil _)
      · exact Fr.Sub.cons rfl (Fr.Sub.cons rfl (Fr.Sub.cons rfl (Fr.Sub.nil _)))
      · exact HSub.pick 0 rfl (HSub.nil _)
  · have h10 := of_decide_eq_false h10
    obtain rfl : t = g.length := by omega
    refine RunC.exit ?_
    refine Ends.then_exit ?_
    refine Ends.then_exit ?_
    refine Ends.block_exit ?_
    refine Ends.leave (.inr rfl) (fun _ _ ok => results0 Tryz.results70  ok) (fun w2 hs => ?_)
    exact Ret.intro (4 * g.length, s) (fun _ => rfl) rfl (HSub.pick 0 rfl (HSub.nil _)) hs

theorem gl_Check (base : Option Addr) (A : Addr) (cap : Nat) (g : Glu) (w : World) (hg : GluAt w base A g) : Gives Tryz.prog 14 #[gluV base cap g] w Nil (fun _ : Unit => True) (fun _ => iv (chkG g)) (fun _ => []) := by
  have hlen := hg.len
  refine fn_of_runM (S := Nil) (args := [gluV base cap g]) (n := 71) (L := []) Tryz.func14 rfl Tryz.ntmps14 (Nat.le_of_ble_eq_true rfl) (Sym.nil _ _) ?_
  change RunC _ _ _ [(0, _)] _
  refine RunC.conv (fun _ hs => hs.marks_nil) ?_
  refine RunC.seq ?_
  refine RunC.region ?_
  refine RunL.grows rfl rfl rfl (Grows.box rfl rfl) (fun b1 _ => ?_)
  refine RunL.grows rfl rfl rfl (Grows.alloc rfl Tryz.zeroValue27) (fun b2 _ => ?_)
  refine RunL.nil ?_
  refine Ends.then ?_
  refine RunC.seq ?_
  refine RunC.seq ?_
  refine RunC.region ?_
  refine RunL.still rfl rfl rfl (Still.fieldAddrL (off := 0) (off' := 0) rfl rfl Tryz.underlying24 rfl Tryz.sizeOf22 rfl) ?_
  refine RunL.still rfl rfl rfl (Still.load rfl rfl Tryz.isAgg22 (fun _ hs => cell_nth (hs.at (i := 1) rfl) rfl)) ?_
  refine RunL.still rfl rfl rfl (Still.lenSlice rfl rfl Tryz.underlying22) ?_
  refine RunL.still rfl rfl rfl (Still.gtr rfl rfl rfl) ?_
  refine RunL.nil ?_
  refine Ends.then ?_
  refine RunC.cond rfl (fun h9 => ?_) (fun h9 => ?_)
  · have h9 := of_decide_eq_true h9
    refine RunC.seq ?_
    refine RunC.region ?_
    refine RunL.does0 rfl rfl (Does.store1 rfl rfl rfl (i := 0) rfl Tryz.sizeOf27 (rfl) (rfl)) (fun _ _ => ?_)
    refine RunL.nil ?_
    refine Ends.then ?_
    refine RunC.ret ?_
    refine Ends.then_ret ?_
    refine Ends.leaveM (Ds := []) (H := [_]) (.inl rfl) (HSub.pick 2 rfl (HSub.pick 0 rfl (HSub.nil _))) (fun _ _ ok => ok.results1 Tryz.results14 (Holds.cell rfl (fun _ hs => load_one Tryz.isAgg27 (cell_nth (hs.at (i := 0) rfl) rfl)))) (fun w1 hs => ?_)
    exact Ret.intro () trivial (by rw [chkG_big (by omega)]) (HSub.nil _) hs
  · have h9 := of_decide_eq_false h9
    refine RunC.skip ?_
    refine Ends.then ?_
    refine RunC.seq ?_
    refine RunC.region ?_
    refine RunL.still rfl rfl rfl (Still.build_1 (fun x0_0 => .agg #[x0_0, .int .i64 0, .int .i64 0, .int .i64 0, .int .i64 0]) rfl rfl (fun _ => by kernel_rfl)) ?_
    refine RunL.grows rfl rfl rfl (Grows.alloc rfl Tryz.zeroValue34) (fun b3 _ => ?_)
    refine RunL.does0 rfl rfl (Does.store rfl rfl rfl (i := 0) rfl Tryz.sizeOf34 rfl (rfl) rfl) (fun _ _ => ?_)
    refine RunL.nil ?_
    refine Ends.then ?_
    refine RunC.seq ?_
    refine RunC.seq ?_
    refine RunC.region ?_
    refine RunL.still rfl rfl rfl (Still.loads rfl rfl Tryz.isAgg24 Tryz.sizeOf24 (vs := [_]) rfl (fun _ hs => cells_nth (hs.at (i := 2) rfl) ⟨rfl, trivial⟩)) ?_
    refine RunL.grows rfl rfl rfl (Grows.call (vs := #[_]) rfl rfl Tryz.call45 (fun w hs => gl_faces base A cap g w)) (fun gb _ => ?_)
    refine RunL.nil ?_
    refine Ends.then ?_
    refine RunC.block ?_
    refine RunC.conv (fun _ hs => hs.pureI (p := ChkI g 0 false) (rfl)) ?_
    refine RunC.conv (fun _ hs => Sym.all (l := [_, _, _, _]) (hs.sub (HSub.pick 3 rfl (HSub.pick 3 rfl (HSub.pick 2 rfl (HSub.pick 0 rfl (HSub.pick 0 rfl (HSub.pick 0 rfl (HSub.nil _))))))))) ?_
    refine RunC.rangeFuncJ (V := .tuple #[]) (gf := 70) (N := 4 * g.length) (lb := #[ptrV gb]) false (fun s : Bool => bif s then some .ret else none) (fun j => [.agg #[iv ((j / 4 : Nat) : Int), iv ((j % 4 : Nat) : Int)], fcV (fAt g (j / 4) (j % 4))]) (fun j s => HL.all [HL.obj b2 (.cells #[iv (errC s)] 27 (0, 0)), HL.obj b1 (.cells #[.slice base g.length cap] 24 (0, 0)), HL.obj b3 (.cells #[iv (-1), iv 0, iv 0, iv 0, iv 0] 34 (0, 0)), HL.pure (ChkI g j s)]) rfl rfl (fun _ => rfl) rfl Tryz.call70 rfl (HSub.pick 0 rfl (HSub.refl _)) ?_ ?_ ?_
    · intro l rc j s w S hO hS hj hjs ha hb
      obtain rfl : s = false := by cases s; rfl; cases hjs
      obtain ⟨t, f, rfl, hf4⟩ : ∃ t f, j = 4 * t + f ∧ f < 4 := ⟨j / 4, j % 4, by omega, by omega⟩
      have htN : t < g.length := by omega
      have e1 : (4 * t + f) / 4 = t := by omega
      have e2 : (4 * t + f) % 4 = f := by omega
      rw [e1, e2]
      refine RunC.seq ?_
      refine RunC.region ?_
      refine RunL.grows rfl rfl rfl (Grows.alloc rfl Tryz.zeroValue68) (fun b4 _ => ?_)
      refine RunL.does0 rfl rfl (Does.store rfl rfl rfl (i := 0) rfl Tryz.sizeOf68 rfl (rfl) rfl) (fun _ _ => ?_)
      refine RunL.nil ?_
      refine Ends.then ?_
      refine RunC.region ?_
      refine RunL.grows rfl rfl rfl (Grows.alloc rfl Tryz.zeroValue34) (fun b5 _ => ?_)
      refine RunL.does0 rfl rfl (Does.store rfl rfl rfl (i := 0) rfl Tryz.sizeOf34 rfl (rfl) rfl) (fun _ _ => ?_)
      refine RunL.nil ?_
      refine Ends.roundBeginJ (Fr.Sub.refl _) (HSub.pick 2 rfl (HSub.refl _)) ?_
      refine RunC.conv (fun _ hs => Sym.unall (hs.sub (HSub.pick 3 rfl (HSub.pick 0 rfl (HSub.pick 0 rfl (HSub.pick 0 rfl (HSub.nil _))))))) ?_
      refine RunC.know (fun _ hs => hs.at (i := 3) rfl) (fun I => ?_)
      refine RunC.conv (fun _ hs => hs.sub (HSub.pick 0 rfl (HSub.pick 0 rfl (HSub.pick 0 rfl (HSub.pick 1 rfl (HSub.pick 1 rfl (HSub.pick 1 rfl (HSub.nil _)))))))) ?_
      have hI : facesTo g (4 * t + f) = true := I
      refine RunC.block ?_
      refine RunC.seq ?_
      refine RunC.seq ?_
      refine RunC.region ?_
      refine RunL.still rfl rfl rfl (Still.loads rfl rfl Tryz.isAgg34 Tryz.sizeOf34 (vs := [_, _, _, _, _]) rfl (fun _ hs => cells_nth (hs.at (i := 4) rfl) ⟨rfl, ⟨rfl, ⟨rfl, ⟨rfl, ⟨rfl, trivial⟩⟩⟩⟩⟩)) ?_
      refine RunL.still rfl rfl rfl (Still.loads rfl rfl Tryz.isAgg34 Tryz.sizeOf34 (vs := [_, _, _, _, _]) rfl (fun _ hs => cells_nth (hs.at (i := 2) rfl) ⟨rfl, ⟨rfl, ⟨rfl, ⟨rfl, ⟨rfl, trivial⟩⟩⟩⟩⟩)) ?_
      refine RunL.still rfl rfl rfl (Still.eqlAgg rfl rfl rfl Tryz.eqGuardType34 (fun _ => eqF _ _ _ _ _ _ _ _ _ _ _ _)) ?_
      refine RunL.nil ?_
      refine Ends.then ?_
      refine RunC.cond rfl (fun h17 => ?_) (fun h17 => ?_)
      · skip
        refine RunC.exit ?_
        refine Ends.then_exit ?_
        refine Ends.block_exit ?_
        refine Ends.conv (fun _ hs => hs.pureI (p := (ChkI g (4 * t + f + 1) false)) (ChkI.next hf4 hI (faceOk_noF (fc_eq.1 (of_decide_eq_true h17))))) ?_
        refine Ends.conv (fun _ hs => (Sym.all (l := [HL.obj b2 (.cells #[iv (errC false)] 27 (0, 0)), HL.obj b1 (.cells #[.slice base g.length cap] 24 (0, 0)), HL.obj b3 (.cells #[iv (-1), iv 0, iv 0, iv 0, iv 0] 34 (0, 0)), HL.pure (ChkI g (4 * t + f + 1) false)]) (hs.sub (HSub.pick 1 rfl (HSub.pick 1 rfl (HSub.pick 1 rfl (HSub.pick 0 rfl (HSub.pick 0 rfl (HSub.nil _)))))))).sub (HSub.pick 1 rfl (HSub.pick 0 rfl (HSub.nil _)))) (Ends.roundEndJ false rfl (HSub.refl _))
      · have hno : fAt g t f ≠ noF := fun e => of_decide_eq_false h17 (fc_eq.2 e)
        refine RunC.skip ?_
        refine Ends.then ?_
        refine RunC.seq ?_
        refine RunC.seq ?_
        refine RunC.draw 33 (.still 0 (.still 1 (.still 2 (.still 3 (.still 4 (.still 5 (.still 6 (.still 7 (.still 8 (.still 9 (.still 10 (.still 11 (.still 12 (.still 13 (.one 14 (.still 15 (.still 16 (.still 17 (.still 18 (.still 19 (.still 20 (.still 21 (.still 22 (.still 23 (.still 24 (.still 25 (.still 26 (.still 27 (.still 28 (.still 29 (.still 30 (.still 31 (.still 32 .done))))))))))))))))))))))))))))))))) (by kernel_rfl) (by kernel_rfl) ?_
        refine RunG.still rfl rfl rfl rfl (Still.fieldAddrL (off := 0) (off' := 0) rfl rfl Tryz.underlying34 rfl Tryz.sizeOf3 rfl) ?_
        refine RunG.still rfl rfl rfl rfl (Still.load rfl rfl Tryz.isAgg3 (fun _ hs => cell_nth (hs.at (i := 4) rfl) rfl)) ?_
        refine RunG.still rfl rfl rfl rfl (Still.lss rfl rfl rfl) ?_
        refine RunG.still rfl rfl rfl rfl (Still.move rfl rfl) ?_
        refine RunG.split (t := 21) rfl (fun h21 => ?_) (fun h21 => ?_)
        · have h21 := of_decide_eq_true h21
          refine RunG.off rfl rfl rfl rfl ?_
          refine RunG.off rfl rfl rfl rfl ?_
          refine RunG.off rfl rfl rfl rfl ?_
          refine RunG.off rfl rfl rfl rfl ?_
          refine RunG.off rfl rfl rfl rfl ?_
          refine RunG.off rfl rfl rfl rfl ?_
          refine RunG.still rfl rfl rfl rfl (Still.pickT rfl rfl rfl) ?_
          refine RunG.still rfl rfl rfl rfl (Still.move rfl rfl) ?_
          refine RunG.off rfl rfl rfl rfl ?_
          refine RunG.off rfl rfl rfl rfl ?_
          refine RunG.off' rfl rfl rfl rfl ?_
          refine RunG.off rfl rfl rfl rfl ?_
          refine RunG.still rfl rfl rfl rfl (Still.pickT rfl rfl rfl) ?_
          refine RunG.still rfl rfl rfl rfl (Still.move rfl rfl) ?_
          refine RunG.off rfl rfl rfl rfl ?_
          refine RunG.off rfl rfl rfl rfl ?_
          refine RunG.off rfl rfl rfl rfl ?_
          refine RunG.off rfl rfl rfl rfl ?_
          refine RunG.off rfl rfl rfl rfl ?_
          refine RunG.off rfl rfl rfl rfl ?_
          refine RunG.off rfl rfl rfl rfl ?_
          refine RunG.off rfl rfl rfl rfl ?_
          refine RunG.off rfl rfl rfl rfl ?_
          refine RunG.off rfl rfl rfl rfl ?_
          refine RunG.off rfl rfl rfl rfl ?_
          refine RunG.off rfl rfl rfl rfl ?_
          refine RunG.off rfl rfl rfl rfl ?_
          refine RunG.off rfl rfl rfl rfl ?_
          refine RunG.off rfl rfl rfl rfl ?_
          refine RunG.done ?_
          show RunL _ _ _ [_] _ _
          refine RunL.still rfl rfl rfl (Still.pickT rfl rfl rfl) ?_
          refine RunL.nil ?_
          refine Ends.then ?_
          refine RunC.cond_true rfl ?_
          refine RunC.seq ?_
          refine RunC.region ?_
          refine RunL.does0 rfl rfl (Does.store1 rfl rfl rfl (i := 0) rfl Tryz.sizeOf27 (rfl) (rfl)) (fun _ _ => ?_)
          refine RunL.nil ?_
          refine Ends.then ?_
          refine RunC.ret ?_
          refine Ends.then_ret ?_
          refine Ends.block_ret ?_
          refine Ends.conv (fun _ hs => hs.pureI (p := (ChkI g (4 * t + f + 1) true)) (ChkI.stop htN hf4 hno (fun h => by have := h.lo; omega) _)) ?_
          refine Ends.conv (fun _ hs => (Sym.all (l := [HL.obj b2 (.cells #[iv (errC true)] 27 (0, 0)), HL.obj b1 (.cells #[.slice base g.length cap] 24 (0, 0)), HL.obj b3 (.cells #[iv (-1), iv 0, iv 0, iv 0, iv 0] 34 (0, 0)), HL.pure (ChkI g (4 * t + f + 1) true)]) (hs.sub (HSub.pick 1 rfl (HSub.pick 1 rfl (HSub.pick 1 rfl (HSub.pick 0 rfl (HSub.pick 0 rfl (HSub.nil _)))))))).sub (HSub.pick 1 rfl (HSub.pick 0 rfl (HSub.nil _)))) (Ends.roundRetJ true rfl (HSub.refl _))
        · have h21 := of_decide_eq_false h21
          refine RunG.still rfl rfl rfl rfl (Still.fieldAddrL (off := 0) (off' := 0) rfl rfl Tryz.underlying34 rfl Tryz.sizeOf3 rfl) ?_
          refine RunG.still rfl rfl rfl rfl (Still.load rfl rfl Tryz.isAgg3 (fun _ hs => cell_nth (hs.at (i := 4) rfl) rfl)) ?_
          refine RunG.still rfl rfl rfl rfl (Still.fieldAddrL (off := 0) (off' := 0) rfl rfl Tryz.underlying24 rfl Tryz.sizeOf22 rfl) ?_
          refine RunG.still rfl rfl rfl rfl (Still.load rfl rfl Tryz.isAgg22 (fun _ hs => cell_nth (hs.at (i := 1) rfl) rfl)) ?_
          refine RunG.still rfl rfl rfl rfl (Still.lenSlice rfl rfl Tryz.underlying22) ?_
          refine RunG.still rfl rfl rfl rfl (Still.geq rfl rfl rfl) ?_
          refine RunG.still rfl rfl rfl rfl (Still.pickF rfl rfl rfl) ?_
          refine RunG.still rfl rfl rfl rfl (Still.move rfl rfl) ?_
          refine RunG.split (t := 29) rfl (fun h29 => ?_) (fun h29 => ?_)
          · have h29 := of_decide_eq_true h29
            refine RunG.off rfl rfl rfl rfl ?_
            refine RunG.off rfl rfl rfl rfl ?_
            refine RunG.off' rfl rfl rfl rfl ?_
            refine RunG.off rfl rfl rfl rfl ?_
            refine RunG.still rfl rfl rfl rfl (Still.pickT rfl rfl rfl) ?_
            refine RunG.still rfl rfl rfl rfl (Still.move rfl rfl) ?_
            refine RunG.off rfl rfl rfl rfl ?_
            refine RunG.off rfl rfl rfl rfl ?_
            refine RunG.off rfl rfl rfl rfl ?_
            refine RunG.off rfl rfl rfl rfl ?_
            refine RunG.off rfl rfl rfl rfl ?_
            refine RunG.off rfl rfl rfl rfl ?_
            refine RunG.off rfl rfl rfl rfl ?_
            refine RunG.off rfl rfl rfl rfl ?_
            refine RunG.off rfl rfl rfl rfl ?_
            refine RunG.off rfl rfl rfl rfl ?_
            refine RunG.off rfl rfl rfl rfl ?_
            refine RunG.off rfl rfl rfl rfl ?_
            refine RunG.off rfl rfl rfl rfl ?_
            refine RunG.off rfl rfl rfl rfl ?_
            refine RunG.off rfl rfl rfl rfl ?_
            refine RunG.done ?_
            show RunL _ _ _ [_] _ _
            refine RunL.still rfl rfl rfl (Still.pickT rfl rfl rfl) ?_
            refine RunL.nil ?_
            refine Ends.then ?_
            refine RunC.cond_true rfl ?_
            refine RunC.seq ?_
            refine RunC.region ?_
            refine RunL.does0 rfl rfl (Does.store1 rfl rfl rfl (i := 0) rfl Tryz.sizeOf27 (rfl) (rfl)) (fun _ _ => ?_)
            refine RunL.nil ?_
            refine Ends.then ?_
            refine RunC.ret ?_
            refine Ends.then_ret ?_
            refine Ends.block_ret ?_
            refine Ends.conv (fun _ hs => hs.pureI (p := (ChkI g (4 * t + f + 1) true)) (ChkI.stop htN hf4 hno (fun h => by have := h.hi; omega) _)) ?_
            refine Ends.conv (fun _ hs => (Sym.all (l := [HL.obj b2 (.cells #[iv (errC true)] 27 (0, 0)), HL.obj b1 (.cells #[.slice base g.length cap] 24 (0, 0)), HL.obj b3 (.cells #[iv (-1), iv 0, iv 0, iv 0, iv 0] 34 (0, 0)), HL.pure (ChkI g (4 * t + f + 1) true)]) (hs.sub (HSub.pick 1 rfl (HSub.pick 1 rfl (HSub.pick 1 rfl (HSub.pick 0 rfl (HSub.pick 0 rfl (HSub.nil _)))))))).sub (HSub.pick 1 rfl (HSub.pick 0 rfl (HSub.nil _)))) (Ends.roundRetJ true rfl (HSub.refl _))
          · have h29 := of_decide_eq_false h29
            refine RunG.still rfl rfl rfl rfl (Still.fieldAddrL (off := 0) (off' := 1) rfl rfl Tryz.underlying34 rfl Tryz.sizeOf32 rfl) ?_
            refine RunG.still rfl rfl rfl rfl (Still.loads rfl rfl Tryz.isAgg32 Tryz.sizeOf32 (vs := [_, _, _, _]) rfl (fun _ hs => cells_nth (hs.at (i := 4) rfl) ⟨rfl, ⟨rfl, ⟨rfl, ⟨rfl, trivial⟩⟩⟩⟩)) ?_
            refine RunG.grows rfl rfl rfl rfl (Grows.call (vs := #[_]) rfl rfl Tryz.call43 (fun w hs => gl_Valid _ w)) (fun _ _ => ?_)
            refine RunG.still rfl rfl rfl rfl (Still.not rfl rfl) ?_
            refine RunG.still rfl rfl rfl rfl (Still.pickF rfl rfl rfl) ?_
            refine RunG.still rfl rfl rfl rfl (Still.move rfl rfl) ?_
            refine RunG.split (t := 35) rfl (fun h35 => ?_) (fun h35 => ?_)
            · skip
              refine RunG.off rfl rfl rfl rfl ?_
              refine RunG.off rfl rfl rfl rfl ?_
              refine RunG.off rfl rfl rfl rfl ?_
              refine RunG.off rfl rfl rfl rfl ?_
              refine RunG.off rfl rfl rfl rfl ?_
              refine RunG.off rfl rfl rfl rfl ?_
              refine RunG.off rfl rfl rfl rfl ?_
              refine RunG.off rfl rfl rfl rfl ?_
              refine RunG.off rfl rfl rfl rfl ?_
              refine RunG.off rfl rfl rfl rfl ?_
              refine RunG.off rfl rfl rfl rfl ?_
              refine RunG.off rfl rfl rfl rfl ?_
              refine RunG.off rfl rfl rfl rfl ?_
              refine RunG.off rfl rfl rfl rfl ?_
              refine RunG.off rfl rfl rfl rfl ?_
              refine RunG.done ?_
              show RunL _ _ _ [_] _ _
              refine RunL.still rfl rfl rfl (Still.pickT rfl rfl rfl) ?_
              refine RunL.nil ?_
              refine Ends.then ?_
              refine RunC.cond_true rfl ?_
              refine RunC.seq ?_
              refine RunC.region ?_
              refine RunL.does0 rfl rfl (Does.store1 rfl rfl rfl (i := 0) rfl Tryz.sizeOf27 (rfl) (rfl)) (fun _ _ => ?_)
              refine RunL.nil ?_
              refine Ends.then ?_
              refine RunC.ret ?_
              refine Ends.then_ret ?_
              refine Ends.block_ret ?_
              refine Ends.conv (fun _ hs => hs.pureI (p := (ChkI g (4 * t + f + 1) true)) (ChkI.stop htN hf4 hno (fun h => by rw [h.ok] at h35; cases h35) _)) ?_
              refine Ends.conv (fun _ hs => (Sym.all (l := [HL.obj b2 (.cells #[iv (errC true)] 27 (0, 0)), HL.obj b1 (.cells #[.slice base g.length cap] 24 (0, 0)), HL.obj b3 (.cells #[iv (-1), iv 0, iv 0, iv 0, iv 0] 34 (0, 0)), HL.pure (ChkI g (4 * t + f + 1) true)]) (hs.sub (HSub.pick 1 rfl (HSub.pick 1 rfl (HSub.pick 1 rfl (HSub.pick 0 rfl (HSub.pick 0 rfl (HSub.nil _)))))))).sub (HSub.pick 1 rfl (HSub.pick 0 rfl (HSub.nil _)))) (Ends.roundRetJ true rfl (HSub.refl _))
            · have hok : okP (fAt g t f).p = true := by simpa using h35
              refine RunG.still rfl rfl rfl rfl (Still.fieldAddrL (off := 0) (off' := 0) rfl rfl Tryz.underlying34 rfl Tryz.sizeOf3 rfl) ?_
              refine RunG.still rfl rfl rfl rfl (Still.load rfl rfl Tryz.isAgg3 (fun _ hs => cell_nth (hs.at (i := 4) rfl) rfl)) ?_
              refine RunG.still rfl rfl rfl rfl (Still.fieldAddrL (off := 0) (off' := 0) rfl rfl Tryz.underlying68 rfl Tryz.sizeOf3 rfl) ?_
              refine RunG.still rfl rfl rfl rfl (Still.load rfl rfl Tryz.isAgg3 (fun _ hs => cell_nth (hs.at (i := 5) rfl) rfl)) ?_
              refine RunG.still rfl rfl rfl rfl (Still.eql rfl rfl rfl) ?_
              refine RunG.still rfl rfl rfl rfl (Still.move rfl rfl) ?_
              refine RunG.split (t := 41) rfl (fun h41 => ?_) (fun h41 => ?_)
              · have h41 := of_decide_eq_true h41
                refine RunG.still rfl rfl rfl rfl (Still.fieldAddrL (off := 0) (off' := 1) rfl rfl Tryz.underlying68 rfl Tryz.sizeOf3 rfl) ?_
                refine RunG.still rfl rfl rfl rfl (Still.load rfl rfl Tryz.isAgg3 (fun _ hs => cell_nth (hs.at (i := 5) rfl) rfl)) ?_
                refine RunG.still rfl rfl rfl rfl (Still.fieldAddrL (off := 0) (off' := 1) rfl rfl Tryz.underlying34 rfl Tryz.sizeOf32 rfl) ?_
                refine RunG.still rfl rfl rfl rfl (Still.indexArrEL f rfl rfl rfl Tryz.underlying32 Tryz.sizeOf3 (rfl) (by omega)) ?_
                refine RunG.still rfl rfl rfl rfl (Still.load (v := iv ((fAt g t f).p.at f)) rfl rfl Tryz.isAgg3 (fun _ hs => cell_nth (hs.at (i := 4) rfl) (nth_p4o hf4))) ?_
                refine RunG.still rfl rfl rfl rfl (Still.fieldAddrL (off := 0) (off' := 1) rfl rfl Tryz.underlying68 rfl Tryz.sizeOf3 rfl) ?_
                refine RunG.still rfl rfl rfl rfl (Still.load rfl rfl Tryz.isAgg3 (fun _ hs => cell_nth (hs.at (i := 5) rfl) rfl)) ?_
                refine RunG.still rfl rfl rfl rfl (Still.eql rfl rfl rfl) ?_
                refine RunG.still rfl rfl rfl rfl (Still.pickT rfl rfl rfl) ?_
                refine RunG.done ?_
                show RunL _ _ _ [_] _ _
                refine RunL.still rfl rfl rfl (Still.pickF rfl rfl rfl) ?_
                refine RunL.nil ?_
                refine Ends.then ?_
                refine RunC.cond rfl (fun h51 => ?_) (fun h51 => ?_)
                · have h51 := of_decide_eq_true h51
                  refine RunC.seq ?_
                  refine RunC.region ?_
                  refine RunL.does0 rfl rfl (Does.store1 rfl rfl rfl (i := 0) rfl Tryz.sizeOf27 (rfl) (rfl)) (fun _ _ => ?_)
                  refine RunL.nil ?_
                  refine Ends.then ?_
                  refine RunC.ret ?_
                  refine Ends.then_ret ?_
                  refine Ends.block_ret ?_
                  refine Ends.conv (fun _ hs => hs.pureI (p := (ChkI g (4 * t + f + 1) true)) (ChkI.stop htN hf4 hno (fun h => h.ne ⟨h41, h51⟩) _)) ?_
                  refine Ends.conv (fun _ hs => (Sym.all (l := [HL.obj b2 (.cells #[iv (errC true)] 27 (0, 0)), HL.obj b1 (.cells #[.slice base g.length cap] 24 (0, 0)), HL.obj b3 (.cells #[iv (-1), iv 0, iv 0, iv 0, iv 0] 34 (0, 0)), HL.pure (ChkI g (4 * t + f + 1) true)]) (hs.sub (HSub.pick 1 rfl (HSub.pick 1 rfl (HSub.pick 1 rfl (HSub.pick 0 rfl (HSub.pick 0 rfl (HSub.nil _)))))))).sub (HSub.pick 1 rfl (HSub.pick 0 rfl (HSub.nil _)))) (Ends.roundRetJ true rfl (HSub.refl _))
                · have h51 := of_decide_eq_false h51
                  have hne : ¬ ((fAt g t f).tet = t ∧ (fAt g t f).p.at f = f) := fun e => h51 e.2
                  refine RunC.skip ?_
                  refine Ends.then ?_
                  refine RunC.seq ?_
                  refine RunC.draw 18 (.still 0 (.still 1 (.still 2 (.still 3 (.still 4 (.still 5 (.still 6 (.still 7 (.still 8 (.still 9 (.still 10 (.still 11 (.still 12 (.still 13 (.still 14 (.still 15 (.one 16 (.still 17 .done)))))))))))))))))) (by kernel_rfl) (by kernel_rfl) ?_
                  refine RunG.still rfl rfl rfl rfl (Still.fieldAddrL (off := 0) (off' := 0) rfl rfl Tryz.underlying24 rfl Tryz.sizeOf22 rfl) ?_
                  refine RunG.still rfl rfl rfl rfl (Still.load rfl rfl Tryz.isAgg22 (fun _ hs => cell_nth (hs.at (i := 1) rfl) rfl)) ?_
                  refine RunG.still rfl rfl rfl rfl (Still.fieldAddrL (off := 0) (off' := 0) rfl rfl Tryz.underlying34 rfl Tryz.sizeOf3 rfl) ?_
                  refine RunG.still rfl rfl rfl rfl (Still.load rfl rfl Tryz.isAgg3 (fun _ hs => cell_nth (hs.at (i := 4) rfl) rfl)) ?_
                  refine RunG.still rfl rfl rfl rfl (Still.fieldAddrL (off := 0) (off' := 1) rfl rfl Tryz.underlying68 rfl Tryz.sizeOf3 rfl) ?_
                  refine RunG.still rfl rfl rfl rfl (Still.load rfl rfl Tryz.isAgg3 (fun _ hs => cell_nth (hs.at (i := 5) rfl) rfl)) ?_
                  refine RunG.still rfl rfl rfl rfl (Still.fieldAddrL (off := 0) (off' := 1) rfl rfl Tryz.underlying34 rfl Tryz.sizeOf32 rfl) ?_
                  refine RunG.still rfl rfl rfl rfl (Still.indexArrEL f rfl rfl rfl Tryz.underlying32 Tryz.sizeOf3 (rfl) (by omega)) ?_
                  refine RunG.still rfl rfl rfl rfl (Still.load (v := iv ((fAt g t f).p.at f)) rfl rfl Tryz.isAgg3 (fun _ hs => cell_nth (hs.at (i := 4) rfl) (nth_p4o hf4))) ?_
                  have hpf := okP_at hok f
                  refine RunG.still rfl rfl rfl rfl (Still.indexSliceE (fAt g t f).tet.toNat rfl rfl rfl Tryz.underlying22 Tryz.sizeOf35 (hg.base (by omega)) (by omega) (by omega)) ?_
                  refine RunG.still rfl rfl rfl rfl (Still.indexArrE ((fAt g t f).p.at f).toNat rfl rfl rfl Tryz.underlying35 Tryz.sizeOf34 (by omega) (by omega)) ?_
                  refine RunG.still rfl rfl rfl rfl (Still.loads rfl rfl Tryz.isAgg34 Tryz.sizeOf34 (vs := [iv (fAt g (fAt g t f).tet.toNat ((fAt g t f).p.at f).toNat).tet, iv (fAt g (fAt g t f).tet.toNat ((fAt g t f).p.at f).toNat).p.a0, iv (fAt g (fAt g t f).tet.toNat ((fAt g t f).p.at f).toNat).p.a1, iv (fAt g (fAt g t f).tet.toNat ((fAt g t f).p.at f).toNat).p.a2, iv (fAt g (fAt g t f).tet.toNat ((fAt g t f).p.at f).toNat).p.a3]) rfl (fun _ hs => (hg.old (hs.outer hO hS)).face (tAt_get (by omega)) (by omega))) ?_
                  refine RunG.still rfl rfl rfl rfl (Still.fieldAddrL (off := 0) (off' := 0) rfl rfl Tryz.underlying68 rfl Tryz.sizeOf3 rfl) ?_
                  refine RunG.still rfl rfl rfl rfl (Still.load rfl rfl Tryz.isAgg3 (fun _ hs => cell_nth (hs.at (i := 5) rfl) rfl)) ?_
                  refine RunG.still rfl rfl rfl rfl (Still.fieldAddrL (off := 0) (off' := 1) rfl rfl Tryz.underlying34 rfl Tryz.sizeOf32 rfl) ?_
                  refine RunG.still rfl rfl rfl rfl (Still.loads rfl rfl Tryz.isAgg32 Tryz.sizeOf32 (vs := [_, _, _, _]) rfl (fun _ hs => cells_nth (hs.at (i := 4) rfl) ⟨rfl, ⟨rfl, ⟨rfl, ⟨rfl, trivial⟩⟩⟩⟩)) ?_
                  refine RunG.grows rfl rfl rfl rfl (Grows.call (vs := #[_]) rfl rfl Tryz.call48 (fun w hs => gl_inverse _ w hok)) (fun _ _ => ?_)
                  refine RunG.still rfl rfl rfl rfl (Still.build_1_4 (fun x0_0 x1_0 x1_1 x1_2 x1_3 => .agg #[x0_0, x1_0, x1_1, x1_2, x1_3]) rfl rfl rfl (fun _ => by kernel_rfl)) ?_
                  refine RunG.done ?_
                  show RunL _ _ _ [_] _ _
                  refine RunL.still rfl rfl rfl (Still.neqAgg rfl rfl rfl Tryz.eqGuardType34 (fun _ => eqF _ _ _ _ _ _ _ _ _ _ _ _)) ?_
                  refine RunL.nil ?_
                  refine Ends.then ?_
                  refine RunC.cond rfl (fun h70 => ?_) (fun h70 => ?_)
                  · skip
                    refine RunC.seq ?_
                    refine RunC.region ?_
                    refine RunL.does0 rfl rfl (Does.store1 rfl rfl rfl (i := 0) rfl Tryz.sizeOf27 (rfl) (rfl)) (fun _ _ => ?_)
                    refine RunL.nil ?_
                    refine Ends.then ?_
                    refine RunC.ret ?_
                    refine Ends.block_ret ?_
                    refine Ends.conv (fun _ hs => hs.pureI (p := (ChkI g (4 * t + f + 1) true)) (ChkI.stop htN hf4 hno (fun h => bnd_t h70 (fc_eq.2 h.back)) _)) ?_
                    refine Ends.conv (fun _ hs => (Sym.all (l := [HL.obj b2 (.cells #[iv (errC true)] 27 (0, 0)), HL.obj b1 (.cells #[.slice base g.length cap] 24 (0, 0)), HL.obj b3 (.cells #[iv (-1), iv 0, iv 0, iv 0, iv 0] 34 (0, 0)), HL.pure (ChkI g (4 * t + f + 1) true)]) (hs.sub (HSub.pick 1 rfl (HSub.pick 1 rfl (HSub.pick 1 rfl (HSub.pick 0 rfl (HSub.pick 0 rfl (HSub.nil _)))))))).sub (HSub.pick 1 rfl (HSub.pick 0 rfl (HSub.nil _)))) (Ends.roundRetJ true rfl (HSub.refl _))
                  · skip
                    refine RunC.skip ?_
                    refine Ends.block ?_
                    refine Ends.conv (fun _ hs => hs.pureI (p := (ChkI g (4 * t + f + 1) false)) (ChkI.next hf4 hI (faceOk_iff.2 (.inr ⟨by omega, by omega, hok, hne, fc_eq.1 (bnd_f h70)⟩)))) ?_
                    refine Ends.conv (fun _ hs => (Sym.all (l := [HL.obj b2 (.cells #[iv (errC false)] 27 (0, 0)), HL.obj b1 (.cells #[.slice base g.length cap] 24 (0, 0)), HL.obj b3 (.cells #[iv (-1), iv 0, iv 0, iv 0, iv 0] 34 (0, 0)), HL.pure (ChkI g (4 * t + f + 1) false)]) (hs.sub (HSub.pick 1 rfl (HSub.pick 1 rfl (HSub.pick 1 rfl (HSub.pick 0 rfl (HSub.pick 0 rfl (HSub.nil _)))))))).sub (HSub.pick 1 rfl (HSub.pick 0 rfl (HSub.nil _)))) (Ends.roundEndJ false rfl (HSub.refl _))
              · have h41 := of_decide_eq_false h41
                have hne : ¬ ((fAt g t f).tet = t ∧ (fAt g t f).p.at f = f) := fun e => h41 e.1
                refine RunG.off rfl rfl rfl rfl ?_
                refine RunG.off rfl rfl rfl rfl ?_
                refine RunG.off rfl rfl rfl rfl ?_
                refine RunG.off rfl rfl rfl rfl ?_
                refine RunG.off rfl rfl rfl rfl ?_
                refine RunG.off rfl rfl rfl rfl ?_
                refine RunG.off rfl rfl rfl rfl ?_
                refine RunG.off rfl rfl rfl rfl ?_
                refine RunG.still rfl rfl rfl rfl (Still.pickF rfl rfl rfl) ?_
                refine RunG.done ?_
                show RunL _ _ _ [_] _ _
                refine RunL.still rfl rfl rfl (Still.pickF rfl rfl rfl) ?_
                refine RunL.nil ?_
                refine Ends.then ?_
                refine RunC.cond_false rfl ?_
                refine RunC.skip ?_
                refine Ends.then ?_
                refine RunC.seq ?_
                refine RunC.draw 18 (.still 0 (.still 1 (.still 2 (.still 3 (.still 4 (.still 5 (.still 6 (.still 7 (.still 8 (.still 9 (.still 10 (.still 11 (.still 12 (.still 13 (.still 14 (.still 15 (.one 16 (.still 17 .done)))))))))))))))))) (by kernel_rfl) (by kernel_rfl) ?_
                refine RunG.still rfl rfl rfl rfl (Still.fieldAddrL (off := 0) (off' := 0) rfl rfl Tryz.underlying24 rfl Tryz.sizeOf22 rfl) ?_
                refine RunG.still rfl rfl rfl rfl (Still.load rfl rfl Tryz.isAgg22 (fun _ hs => cell_nth (hs.at (i := 1) rfl) rfl)) ?_
                refine RunG.still rfl rfl rfl rfl (Still.fieldAddrL (off := 0) (off' := 0) rfl rfl Tryz.underlying34 rfl Tryz.sizeOf3 rfl) ?_
                refine RunG.still rfl rfl rfl rfl (Still.load rfl rfl Tryz.isAgg3 (fun _ hs => cell_nth (hs.at (i := 4) rfl) rfl)) ?_
                refine RunG.still rfl rfl rfl rfl (Still.fieldAddrL (off := 0) (off' := 1) rfl rfl Tryz.underlying68 rfl Tryz.sizeOf3 rfl) ?_
                refine RunG.still rfl rfl rfl rfl (Still.load rfl rfl Tryz.isAgg3 (fun _ hs => cell_nth (hs.at (i := 5) rfl) rfl)) ?_
                refine RunG.still rfl rfl rfl rfl (Still.fieldAddrL (off := 0) (off' := 1) rfl rfl Tryz.underlying34 rfl Tryz.sizeOf32 rfl) ?_
                refine RunG.still rfl rfl rfl rfl (Still.indexArrEL f rfl rfl rfl Tryz.underlying32 Tryz.sizeOf3 (rfl) (by omega)) ?_
                refine RunG.still rfl rfl rfl rfl (Still.load (v := iv ((fAt g t f).p.at f)) rfl rfl Tryz.isAgg3 (fun _ hs => cell_nth (hs.at (i := 4) rfl) (nth_p4o hf4))) ?_
                have hpf := okP_at hok f
                refine RunG.still rfl rfl rfl rfl (Still.indexSliceE (fAt g t f).tet.toNat rfl rfl rfl Tryz.underlying22 Tryz.sizeOf35 (hg.base (by omega)) (by omega) (by omega)) ?_
                refine RunG.still rfl rfl rfl rfl (Still.indexArrE ((fAt g t f).p.at f).toNat rfl rfl rfl Tryz.underlying35 Tryz.sizeOf34 (by omega) (by omega)) ?_
                refine RunG.still rfl rfl rfl rfl (Still.loads rfl rfl Tryz.isAgg34 Tryz.sizeOf34 (vs := [iv (fAt g (fAt g t f).tet.toNat ((fAt g t f).p.at f).toNat).tet, iv (fAt g (fAt g t f).tet.toNat ((fAt g t f).p.at f).toNat).p.a0, iv (fAt g (fAt g t f).tet.toNat ((fAt g t f).p.at f).toNat).p.a1, iv (fAt g (fAt g t f).tet.toNat ((fAt g t f).p.at f).toNat).p.a2, iv (fAt g (fAt g t f).tet.toNat ((fAt g t f).p.at f).toNat).p.a3]) rfl (fun _ hs => (hg.old (hs.outer hO hS)).face (tAt_get (by omega)) (by omega))) ?_
                refine RunG.still rfl rfl rfl rfl (Still.fieldAddrL (off := 0) (off' := 0) rfl rfl Tryz.underlying68 rfl Tryz.sizeOf3 rfl) ?_
                refine RunG.still rfl rfl rfl rfl (Still.load rfl rfl Tryz.isAgg3 (fun _ hs => cell_nth (hs.at (i := 5) rfl) rfl)) ?_
                refine RunG.still rfl rfl rfl rfl (Still.fieldAddrL (off := 0) (off' := 1) rfl rfl Tryz.underlying34 rfl Tryz.sizeOf32 rfl) ?_
                refine RunG.still rfl rfl rfl rfl (Still.loads rfl rfl Tryz.isAgg32 Tryz.sizeOf32 (vs := [_, _, _, _]) rfl (fun _ hs => cells_nth (hs.at (i := 4) rfl) ⟨rfl, ⟨rfl, ⟨rfl, ⟨rfl, trivial⟩⟩⟩⟩)) ?_
                refine RunG.grows rfl rfl rfl rfl (Grows.call (vs := #[_]) rfl rfl Tryz.call48 (fun w hs => gl_inverse _ w hok)) (fun _ _ => ?_)
                refine RunG.still rfl rfl rfl rfl (Still.build_1_4 (fun x0_0 x1_0 x1_1 x1_2 x1_3 => .agg #[x0_0, x1_0, x1_1, x1_2, x1_3]) rfl rfl rfl (fun _ => by kernel_rfl)) ?_
                refine RunG.done ?_
                show RunL _ _ _ [_] _ _
                refine RunL.still rfl rfl rfl (Still.neqAgg rfl rfl rfl Tryz.eqGuardType34 (fun _ => eqF _ _ _ _ _ _ _ _ _ _ _ _)) ?_
                refine RunL.nil ?_
                refine Ends.then ?_
                refine RunC.cond rfl (fun h70 => ?_) (fun h70 => ?_)
                · skip
                  refine RunC.seq ?_
                  refine RunC.region ?_
                  refine RunL.does0 rfl rfl (Does.store1 rfl rfl rfl (i := 0) rfl Tryz.sizeOf27 (rfl) (rfl)) (fun _ _ => ?_)
                  refine RunL.nil ?_
                  refine Ends.then ?_
                  refine RunC.ret ?_
                  refine Ends.block_ret ?_
                  refine Ends.conv (fun _ hs => hs.pureI (p := (ChkI g (4 * t + f + 1) true)) (ChkI.stop htN hf4 hno (fun h => bnd_t h70 (fc_eq.2 h.back)) _)) ?_
                  refine Ends.conv (fun _ hs => (Sym.all (l := [HL.obj b2 (.cells #[iv (errC true)] 27 (0, 0)), HL.obj b1 (.cells #[.slice base g.length cap] 24 (0, 0)), HL.obj b3 (.cells #[iv (-1), iv 0, iv 0, iv 0, iv 0] 34 (0, 0)), HL.pure (ChkI g (4 * t + f + 1) true)]) (hs.sub (HSub.pick 1 rfl (HSub.pick 1 rfl (HSub.pick 1 rfl (HSub.pick 0 rfl (HSub.pick 0 rfl (HSub.nil _)))))))).sub (HSub.pick 1 rfl (HSub.pick 0 rfl (HSub.nil _)))) (Ends.roundRetJ true rfl (HSub.refl _))
                · skip
                  refine RunC.skip ?_
                  refine Ends.block ?_
                  refine Ends.conv (fun _ hs => hs.pureI (p := (ChkI g (4 * t + f + 1) false)) (ChkI.next hf4 hI (faceOk_iff.2 (.inr ⟨by omega, by omega, hok, hne, fc_eq.1 (bnd_f h70)⟩)))) ?_
                  refine Ends.conv (fun _ hs => (Sym.all (l := [HL.obj b2 (.cells #[iv (errC false)] 27 (0, 0)), HL.obj b1 (.cells #[.slice base g.length cap] 24 (0, 0)), HL.obj b3 (.cells #[iv (-1), iv 0, iv 0, iv 0, iv 0] 34 (0, 0)), HL.pure (ChkI g (4 * t + f + 1) false)]) (hs.sub (HSub.pick 1 rfl (HSub.pick 1 rfl (HSub.pick 1 rfl (HSub.pick 0 rfl (HSub.pick 0 rfl (HSub.nil _)))))))).sub (HSub.pick 1 rfl (HSub.pick 0 rfl (HSub.nil _)))) (Ends.roundEndJ false rfl (HSub.refl _))
    · intro l J w hs hy
      exact gl_faces1 base A cap g l gb _ _ J w rfl (hs.holds _ (List.mem_cons_self ..)) hs.ltK (fun w1 ho => hg.old (hs.oldK ho)) (fun w1 ho => cell_nth (hs.keep (i := 0) rfl ho) rfl) (fun t f s ht hf hj w1 ho hh hl => by have h := hy (4 * t + f) s (by omega) hj w1 ho hh hl; rwa [show (4 * t + f) / 4 = t by omega, show (4 * t + f) % 4 = f by omega] at h)
    · intro D j s hjN
      cases s
      · change Go.V.Ends _ Exit.normal _ _ _
        refine Ends.conv (fun _ hs => Sym.marks_push (hs.sub (HSub.pick 1 rfl (HSub.pick 2 rfl (HSub.pick 0 rfl (HSub.pick 0 rfl (HSub.nil _))))))) ?_
        refine Ends.conv (fun _ hs => Sym.unall (hs.sub (HSub.pick 1 rfl (HSub.pick 0 rfl (HSub.pick 0 rfl (HSub.nil _)))))) ?_
        refine Ends.know (fun _ hs => hs.at (i := 3) rfl) (fun I => ?_)
        refine Ends.conv (fun _ hs => hs.sub (HSub.pick 0 rfl (HSub.pick 0 rfl (HSub.pick 0 rfl (HSub.pick 1 rfl (HSub.pick 1 rfl (HSub.nil _))))))) ?_
        have hgN := hjN rfl
        subst hgN
        refine Ends.block ?_
        refine Ends.then ?_
        refine RunC.seq ?_
        refine RunC.region ?_
        refine RunL.does0 rfl rfl (Does.store1 rfl rfl rfl (i := 0) rfl Tryz.sizeOf27 (rfl) (rfl)) (fun _ _ => ?_)
        refine RunL.nil ?_
        refine Ends.then ?_
        refine RunC.ret ?_
        refine Ends.leaveM (Ds := [D]) (H := [_]) (.inl rfl) (HSub.pick 3 rfl (HSub.pick 0 rfl (HSub.nil _))) (fun _ _ ok => ok.results1 Tryz.results14 (Holds.cell rfl (fun _ hs => load_one Tryz.isAgg27 (cell_nth (hs.at (i := 0) rfl) rfl)))) (fun w2 hs => ?_)
        exact Ret.intro () trivial (by rw [ChkI.done (by omega) I]) (HSub.nil _) hs
      · change RunC _ Code.ret _ _ _
        refine RunC.conv (fun _ hs => Sym.marks_push (hs.sub (HSub.pick 1 rfl (HSub.pick 2 rfl (HSub.pick 0 rfl (HSub.pick 0 rfl (HSub.nil _))))))) ?_
        refine RunC.conv (fun _ hs => Sym.unall (hs.sub (HSub.pick 1 rfl (HSub.pick 0 rfl (HSub.pick 0 rfl (HSub.nil _)))))) ?_
        refine RunC.know (fun _ hs => hs.at (i := 3) rfl) (fun I => ?_)
        refine RunC.conv (fun _ hs => hs.sub (HSub.pick 0 rfl (HSub.pick 0 rfl (HSub.pick 0 rfl (HSub.pick 1 rfl (HSub.pick 1 rfl (HSub.nil _))))))) ?_
        refine RunC.ret ?_
        refine Ends.block_ret ?_
        refine Ends.then_ret ?_
        refine Ends.leaveM (Ds := [D]) (H := [_]) (.inl rfl) (HSub.pick 3 rfl (HSub.pick 0 rfl (HSub.nil _))) (fun _ _ ok => ok.results1 Tryz.results14 (Holds.cell rfl (fun _ hs => load_one Tryz.isAgg27 (cell_nth (hs.at (i := 0) rfl) rfl)))) (fun w3 hs => ?_)
        exact Ret.intro () trivial (by rw [chkG_bad I]; rfl) (HSub.nil _) hs

theorem rf_Inverse_ok (p : P4) (w : World) (hp : okP p = true) : Gives Tryz.prog 38 #[p4V p] w Nil (fun _ : Unit => True) (fun _ => p4V (invP p)) (fun _ => []) := by
  have h := rf_Inverse p w
  rwa [invR, if_pos hp] at h
theorem rf_Compose_ok (p q : P4) (w : World) (hp : okP p = true) (hq : okP q = true) : Gives Tryz.prog 37 #[p4V p, p4V q] w Nil (fun _ : Unit => True) (fun _ => p4V (compP p q)) (fun _ => []) := by
  have h := rf_Compose p q w
  rwa [compR, if_pos ⟨hp, hq⟩] at h
theorem eqP (d : Nat) (a b c f a' b' c' f' : Int) (w : World) : (Op.equalIn (d + 2) 32 (.agg #[iv a, iv b, iv c, iv f]) (.agg #[iv a', iv b', iv c', iv f'])).run Tryz.prog w = .ok (decide (a = a' ∧ b = b' ∧ c = c' ∧ f = f')) w :=
  eq_arr4 Tryz.underlying32 Tryz.underlying3 (by kernel_rfl : Tryz.prog.info? 3 = some Tryz.t3) (by kernel_rfl) d a b c f a' b' c' f' w

theorem rf_Check (base : Option Addr) (A : Addr) (cap : Nat) (g : Glu) (w : World) (hg : GluAt w base A g) : Gives Tryz.prog 11 #[gluV base cap g] w Nil (fun _ : Unit => True) (fun _ => iv (chkG g)) (fun _ => []) := by
  have hlen := hg.len
  refine fn_of_run (S := Nil) (args := [gluV base cap g]) (n := 83) (L := []) Tryz.func11 rfl Tryz.ntmps11 (Nat.le_of_ble_eq_true rfl) (Sym.nil _ _) ?_
  change RunC _ _ _ [(0, _)] _
  refine RunC.seq ?_
  refine RunC.region ?_
  refine RunL.grows rfl rfl rfl (Grows.box rfl rfl) (fun b1 _ => ?_)
  refine RunL.still rfl rfl rfl (Still.assign rfl rfl) ?_
  refine RunL.nil ?_
  refine Ends.then ?_
  refine RunC.seq ?_
  refine RunC.region ?_
  refine RunL.still rfl rfl rfl (Still.fieldAddrL (off := 0) (off' := 0) rfl rfl Tryz.underlying24 rfl Tryz.sizeOf22 rfl) ?_
  refine RunL.still rfl rfl rfl (Still.load rfl rfl Tryz.isAgg22 (fun _ hs => cell_nth (hs.at (i := 0) rfl) rfl)) ?_
  refine RunL.still rfl rfl rfl (Still.lenSlice rfl rfl Tryz.underlying22) ?_
  refine RunL.still rfl rfl rfl (Still.assign rfl rfl) ?_
  refine RunL.nil ?_
  refine Ends.then ?_
  refine RunC.seq ?_
  refine RunC.seq ?_
  refine RunC.region ?_
  refine RunL.still rfl rfl rfl (Still.move rfl rfl) ?_
  refine RunL.still rfl rfl rfl (Still.gtr rfl rfl rfl) ?_
  refine RunL.nil ?_
  refine Ends.then ?_
  refine RunC.cond rfl (fun h11 => ?_) (fun h11 => ?_)
  · have h11 := of_decide_eq_true h11
    refine RunC.seq ?_
    refine RunC.region ?_
    refine RunL.still rfl rfl rfl (Still.assign rfl rfl) ?_
    refine RunL.nil ?_
    refine Ends.then ?_
    refine RunC.ret ?_
    refine Ends.then_ret ?_
    refine Ends.leave (.inl rfl) (fun _ _ ok => results1 Tryz.results11 (Holds.tmp rfl) ok) (fun w1 hs => ?_)
    exact Ret.intro () trivial (by rw [chkG_big (by omega)]) (HSub.nil _) hs
  · have h11 := of_decide_eq_false h11
    refine RunC.skip ?_
    refine Ends.then ?_
    refine RunC.seq ?_
    refine RunC.seq ?_
    refine RunC.region ?_
    refine RunL.still rfl rfl rfl (Still.assign rfl rfl) ?_
    refine RunL.nil ?_
    refine Ends.then ?_
    refine RunC.block ?_
    refine RunC.loop2 (γ := Nat) (keep := [(1, _), (3, _)]) (hkeep := [_]) (fun t => t ≤ g.length ∧ facesTo g (4 * t) = true) (fun t => g.length - t) (fun t => [(4, iv t)]) (fun t => []) 0 ⟨by omega, rfl⟩ (Fr.Sub.cons rfl (Fr.Sub.nil _)) (Fr.Sub.cons rfl (Fr.Sub.cons rfl (Fr.Sub.nil _))) (HSub.pick 0 rfl (HSub.nil _)) ?_
    rintro t ⟨ht, hI⟩
    refine RunC.seq ?_
    refine RunC.seq ?_
    refine RunC.region ?_
    refine RunL.still rfl rfl rfl (Still.move rfl rfl) ?_
    refine RunL.still rfl rfl rfl (Still.move rfl rfl) ?_
    refine RunL.still rfl rfl rfl (Still.lss rfl rfl rfl) ?_
    refine RunL.nil ?_
    refine Ends.then ?_
    refine RunC.cond rfl (fun h14 => ?_) (fun h14 => ?_)
    · have h14 := of_decide_eq_true h14
      have htN : t < g.length := by omega
      refine RunC.skip ?_
      refine Ends.then ?_
      refine RunC.seq ?_
      refine RunC.block ?_
      refine RunC.seq ?_
      refine RunC.region ?_
      refine RunL.still rfl rfl rfl (Still.assign rfl rfl) ?_
      refine RunL.nil ?_
      refine Ends.then ?_
      refine RunC.block ?_
      refine RunC.loop2 (γ := Nat) (keep := [(1, _), (3, _), (4, _)]) (hkeep := [_]) (fun f => f ≤ 4 ∧ facesTo g (4 * t + f) = true) (fun f => 4 - f) (fun f => [(5, iv f)]) (fun f => []) 0 ⟨by omega, hI⟩ (Fr.Sub.cons rfl (Fr.Sub.nil _)) (Fr.Sub.cons rfl (Fr.Sub.cons rfl (Fr.Sub.cons rfl (Fr.Sub.nil _)))) (HSub.pick 0 rfl (HSub.nil _)) ?_
      rintro f ⟨hf, hI2⟩
      refine RunC.seq ?_
      refine RunC.seq ?_
      refine RunC.region ?_
      refine RunL.still rfl rfl rfl (Still.move rfl rfl) ?_
      refine RunL.still rfl rfl rfl (Still.lss rfl rfl rfl) ?_
      refine RunL.nil ?_
      refine Ends.then ?_
      refine RunC.cond rfl (fun h18 => ?_) (fun h18 => ?_)
      · have h18 := of_decide_eq_true h18
        have hf4 : f < 4 := by omega
        refine RunC.skip ?_
        refine Ends.then ?_
        refine RunC.seq ?_
        refine RunC.block ?_
        refine RunC.seq ?_
        refine RunC.region ?_
        refine RunL.still rfl rfl rfl (Still.fieldAddrL (off := 0) (off' := 0) rfl rfl Tryz.underlying24 rfl Tryz.sizeOf22 rfl) ?_
        refine RunL.still rfl rfl rfl (Still.load rfl rfl Tryz.isAgg22 (fun _ hs => cell_nth (hs.at (i := 0) rfl) rfl)) ?_
        refine RunL.still rfl rfl rfl (Still.move rfl rfl) ?_
        refine RunL.still rfl rfl rfl (Still.move rfl rfl) ?_
        refine RunL.still rfl rfl rfl (Still.indexSliceN rfl rfl rfl Tryz.underlying22 Tryz.sizeOf35 (hg.base (by omega)) (by omega)) ?_
        refine RunL.still rfl rfl rfl (Still.indexArrN rfl rfl rfl Tryz.underlying35 Tryz.sizeOf34 (by omega)) ?_
        refine RunL.still rfl rfl rfl (Still.loads rfl rfl Tryz.isAgg34 Tryz.sizeOf34 (vs := [iv (fAt g t f).tet, iv (fAt g t f).p.a0, iv (fAt g t f).p.a1, iv (fAt g t f).p.a2, iv (fAt g t f).p.a3]) rfl (fun _ hs => (hg.sym hs).face (tAt_get htN) hf4)) ?_
        refine RunL.grows rfl rfl rfl (Grows.alloc rfl Tryz.zeroValue34) (fun b6 _ => ?_)
        refine RunL.does0 rfl rfl (Does.store rfl rfl rfl (i := 0) rfl Tryz.sizeOf34 rfl (rfl) rfl) (fun _ _ => ?_)
        refine RunL.nil ?_
        refine Ends.then ?_
        refine RunC.seq ?_
        refine RunC.seq ?_
        refine RunC.region ?_
        refine RunL.still rfl rfl rfl (Still.fieldAddrL (off := 0) (off' := 0) rfl rfl Tryz.underlying34 rfl Tryz.sizeOf3 rfl) ?_
        refine RunL.still rfl rfl rfl (Still.load rfl rfl Tryz.isAgg3 (fun _ hs => cell_nth (hs.at (i := 0) rfl) rfl)) ?_
        refine RunL.still rfl rfl rfl (Still.eql rfl rfl rfl) ?_
        refine RunL.still rfl rfl rfl (Still.move rfl rfl) ?_
        refine RunL.split (t := 31) rfl (fun h31 => ?_) (fun h31 => ?_)
        · have h31 := of_decide_eq_true h31
          refine RunL.still rfl rfl rfl (Still.fieldAddrL (off := 0) (off' := 1) rfl rfl Tryz.underlying34 rfl Tryz.sizeOf32 rfl) ?_
          refine RunL.still rfl rfl rfl (Still.loads rfl rfl Tryz.isAgg32 Tryz.sizeOf32 (vs := [_, _, _, _]) rfl (fun _ hs => cells_nth (hs.at (i := 0) rfl) ⟨rfl, ⟨rfl, ⟨rfl, ⟨rfl, trivial⟩⟩⟩⟩)) ?_
          refine RunL.still rfl rfl rfl (Still.build_0 (.agg #[.int .i64 0, .int .i64 0, .int .i64 0, .int .i64 0]) rfl (fun _ => by kernel_rfl)) ?_
          refine RunL.still rfl rfl rfl (Still.eqlAgg rfl rfl rfl Tryz.eqGuardType32 (fun _ => eqP _ _ _ _ _ _ _ _ _ _)) ?_
          refine RunL.still rfl rfl rfl (Still.pickT rfl rfl rfl) ?_
          refine RunL.nil ?_
          refine Ends.then ?_
          refine RunC.cond rfl (fun h36 => ?_) (fun h36 => ?_)
          · have h36 := of_decide_eq_true h36
            refine RunC.exit ?_
            refine Ends.then_exit ?_
            refine Ends.block_exit ?_
            refine Ends.then ?_
            refine RunC.region ?_
            refine RunL.still rfl rfl rfl (Still.move rfl rfl) ?_
            refine RunL.still rfl rfl rfl (Still.add rfl rfl rfl (fits64 (by omega) (by omega))) ?_
            refine RunL.still rfl rfl rfl (Still.assign rfl rfl) ?_
            refine RunL.nil ?_
            refine Ends.again (f + 1) ?_ ?_ (Fr.Sub.app ?_ ?_) ?_
            · exact ⟨by omega, ChkI.next hf4 hI2 (faceOk_noF (fc_eq.1 ⟨h31, h36⟩))⟩
            · show _ < _; omega
            · exact Fr.Sub.cons rfl (Fr.Sub.nil _)
            · exact Fr.Sub.cons rfl (Fr.Sub.cons rfl (Fr.Sub.cons rfl (Fr.Sub.nil _)))
            · exact HSub.pick 1 rfl (HSub.nil _)
          · have h36 := of_decide_eq_false h36
            have hno : fAt g t f ≠ noF := fun e => h36 (by rw [e]; exact ⟨rfl, rfl, rfl, rfl⟩)
            refine RunC.skip ?_
            refine Ends.then ?_
            refine RunC.seq ?_
            refine RunC.seq ?_
            refine RunC.region ?_
            refine RunL.still rfl rfl rfl (Still.fieldAddrL (off := 0) (off' := 0) rfl rfl Tryz.underlying34 rfl Tryz.sizeOf3 rfl) ?_
            refine RunL.still rfl rfl rfl (Still.load rfl rfl Tryz.isAgg3 (fun _ hs => cell_nth (hs.at (i := 0) rfl) rfl)) ?_
            refine RunL.still rfl rfl rfl (Still.lss rfl rfl rfl) ?_
            refine RunL.still rfl rfl rfl (Still.move rfl rfl) ?_
            refine RunL.split (t := 40) rfl (fun h40 => ?_) (fun h40 => ?_)
            · have h40 := of_decide_eq_true h40
              refine RunL.off rfl rfl rfl ?_
              refine RunL.off rfl rfl rfl ?_
              refine RunL.off rfl rfl rfl ?_
              refine RunL.off rfl rfl rfl ?_
              refine RunL.still rfl rfl rfl (Still.pickT rfl rfl rfl) ?_
              refine RunL.still rfl rfl rfl (Still.move rfl rfl) ?_
              refine RunL.off rfl rfl rfl ?_
              refine RunL.off rfl rfl rfl ?_
              refine RunL.off rfl rfl rfl ?_
              refine RunL.off rfl rfl rfl ?_
              refine RunL.still rfl rfl rfl (Still.pickT rfl rfl rfl) ?_
              refine RunL.still rfl rfl rfl (Still.move rfl rfl) ?_
              refine RunL.off rfl rfl rfl ?_
              refine RunL.off rfl rfl rfl ?_
              refine RunL.off rfl rfl rfl ?_
              refine RunL.off rfl rfl rfl ?_
              refine RunL.off rfl rfl rfl ?_
              refine RunL.off rfl rfl rfl ?_
              refine RunL.off rfl rfl rfl ?_
              refine RunL.off rfl rfl rfl ?_
              refine RunL.off rfl rfl rfl ?_
              refine RunL.off rfl rfl rfl ?_
              refine RunL.off rfl rfl rfl ?_
              refine RunL.off rfl rfl rfl ?_
              refine RunL.still rfl rfl rfl (Still.pickT rfl rfl rfl) ?_
              refine RunL.nil ?_
              refine Ends.then ?_
              refine RunC.cond_true rfl ?_
              refine RunC.seq ?_
              refine RunC.region ?_
              refine RunL.still rfl rfl rfl (Still.assign rfl rfl) ?_
              refine RunL.nil ?_
              refine Ends.then ?_
              refine RunC.ret ?_
              refine Ends.then_ret ?_
              refine Ends.block_ret ?_
              refine Ends.then_ret ?_
              refine Ends.then_ret ?_
              refine Ends.block_ret ?_
              refine Ends.block_ret ?_
              refine Ends.then_ret ?_
              refine Ends.then_ret ?_
              refine Ends.block_ret ?_
              refine Ends.then_ret ?_
              refine Ends.leave (.inl rfl) (fun _ _ ok => results1 Tryz.results11 (Holds.tmp rfl) ok) (fun w2 hs => ?_)
              exact Ret.intro () trivial (by rw [chkG_bad (not_okG htN hf4 (faceOk_bad hno (fun h => by have := h.lo; omega)))]) (HSub.nil _) hs
            · have h40 := of_decide_eq_false h40
              refine RunL.still rfl rfl rfl (Still.fieldAddrL (off := 0) (off' := 0) rfl rfl Tryz.underlying34 rfl Tryz.sizeOf3 rfl) ?_
              refine RunL.still rfl rfl rfl (Still.load rfl rfl Tryz.isAgg3 (fun _ hs => cell_nth (hs.at (i := 0) rfl) rfl)) ?_
              refine RunL.still rfl rfl rfl (Still.move rfl rfl) ?_
              refine RunL.still rfl rfl rfl (Still.geq rfl rfl rfl) ?_
              refine RunL.still rfl rfl rfl (Still.pickF rfl rfl rfl) ?_
              refine RunL.still rfl rfl rfl (Still.move rfl rfl) ?_
              refine RunL.split (t := 46) rfl (fun h46 => ?_) (fun h46 => ?_)
              · have h46 := of_decide_eq_true h46
                refine RunL.off rfl rfl rfl ?_
                refine RunL.off rfl rfl rfl ?_
                refine RunL.off rfl rfl rfl ?_
                refine RunL.off rfl rfl rfl ?_
                refine RunL.still rfl rfl rfl (Still.pickT rfl rfl rfl) ?_
                refine RunL.still rfl rfl rfl (Still.move rfl rfl) ?_
                refine RunL.off rfl rfl rfl ?_
                refine RunL.off rfl rfl rfl ?_
                refine RunL.off rfl rfl rfl ?_
                refine RunL.off rfl rfl rfl ?_
                refine RunL.off rfl rfl rfl ?_
                refine RunL.off rfl rfl rfl ?_
                refine RunL.off rfl rfl rfl ?_
                refine RunL.off rfl rfl rfl ?_
                refine RunL.off rfl rfl rfl ?_
                refine RunL.off rfl rfl rfl ?_
                refine RunL.off rfl rfl rfl ?_
                refine RunL.off rfl rfl rfl ?_
                refine RunL.still rfl rfl rfl (Still.pickT rfl rfl rfl) ?_
                refine RunL.nil ?_
                refine Ends.then ?_
                refine RunC.cond_true rfl ?_
                refine RunC.seq ?_
                refine RunC.region ?_
                refine RunL.still rfl rfl rfl (Still.assign rfl rfl) ?_
                refine RunL.nil ?_
                refine Ends.then ?_
                refine RunC.ret ?_
                refine Ends.then_ret ?_
                refine Ends.block_ret ?_
                refine Ends.then_ret ?_
                refine Ends.then_ret ?_
                refine Ends.block_ret ?_
                refine Ends.block_ret ?_
                refine Ends.then_ret ?_
                refine Ends.then_ret ?_
                refine Ends.block_ret ?_
                refine Ends.then_ret ?_
                refine Ends.leave (.inl rfl) (fun _ _ ok => results1 Tryz.results11 (Holds.tmp rfl) ok) (fun w3 hs => ?_)
                exact Ret.intro () trivial (by rw [chkG_bad (not_okG htN hf4 (faceOk_bad hno (fun h => by have := h.hi; omega)))]) (HSub.nil _) hs
              · have h46 := of_decide_eq_false h46
                refine RunL.still rfl rfl rfl (Still.fieldAddrL (off := 0) (off' := 1) rfl rfl Tryz.underlying34 rfl Tryz.sizeOf32 rfl) ?_
                refine RunL.still rfl rfl rfl (Still.loads rfl rfl Tryz.isAgg32 Tryz.sizeOf32 (vs := [_, _, _, _]) rfl (fun _ hs => cells_nth (hs.at (i := 0) rfl) ⟨rfl, ⟨rfl, ⟨rfl, ⟨rfl, trivial⟩⟩⟩⟩)) ?_
                refine RunL.grows rfl rfl rfl (Grows.call (vs := #[_]) rfl rfl Tryz.call44 (fun w hs => rf_Valid _ w)) (fun _ _ => ?_)
                refine RunL.still rfl rfl rfl (Still.not rfl rfl) ?_
                refine RunL.still rfl rfl rfl (Still.pickF rfl rfl rfl) ?_
                refine RunL.still rfl rfl rfl (Still.move rfl rfl) ?_
                refine RunL.split (t := 52) rfl (fun h52 => ?_) (fun h52 => ?_)
                · skip
                  refine RunL.off rfl rfl rfl ?_
                  refine RunL.off rfl rfl rfl ?_
                  refine RunL.off rfl rfl rfl ?_
                  refine RunL.off rfl rfl rfl ?_
                  refine RunL.off rfl rfl rfl ?_
                  refine RunL.off rfl rfl rfl ?_
                  refine RunL.off rfl rfl rfl ?_
                  refine RunL.off rfl rfl rfl ?_
                  refine RunL.off rfl rfl rfl ?_
                  refine RunL.off rfl rfl rfl ?_
                  refine RunL.off rfl rfl rfl ?_
                  refine RunL.off rfl rfl rfl ?_
                  refine RunL.still rfl rfl rfl (Still.pickT rfl rfl rfl) ?_
                  refine RunL.nil ?_
                  refine Ends.then ?_
                  refine RunC.cond_true rfl ?_
                  refine RunC.seq ?_
                  refine RunC.region ?_
                  refine RunL.still rfl rfl rfl (Still.assign rfl rfl) ?_
                  refine RunL.nil ?_
                  refine Ends.then ?_
                  refine RunC.ret ?_
                  refine Ends.then_ret ?_
                  refine Ends.block_ret ?_
                  refine Ends.then_ret ?_
                  refine Ends.then_ret ?_
                  refine Ends.block_ret ?_
                  refine Ends.block_ret ?_
                  refine Ends.then_ret ?_
                  refine Ends.then_ret ?_
                  refine Ends.block_ret ?_
                  refine Ends.then_ret ?_
                  refine Ends.leave (.inl rfl) (fun _ _ ok => results1 Tryz.results11 (Holds.tmp rfl) ok) (fun w4 hs => ?_)
                  exact Ret.intro () trivial (by rw [chkG_bad (not_okG htN hf4 (faceOk_bad hno (fun h => by rw [h.ok] at h52; cases h52)))]) (HSub.nil _) hs
                · have hok : okP (fAt g t f).p = true := by simpa using h52
                  refine RunL.still rfl rfl rfl (Still.fieldAddrL (off := 0) (off' := 0) rfl rfl Tryz.underlying34 rfl Tryz.sizeOf3 rfl) ?_
                  refine RunL.still rfl rfl rfl (Still.load rfl rfl Tryz.isAgg3 (fun _ hs => cell_nth (hs.at (i := 0) rfl) rfl)) ?_
                  refine RunL.still rfl rfl rfl (Still.move rfl rfl) ?_
                  refine RunL.still rfl rfl rfl (Still.eql rfl rfl rfl) ?_
                  refine RunL.still rfl rfl rfl (Still.move rfl rfl) ?_
                  refine RunL.split (t := 57) rfl (fun h57 => ?_) (fun h57 => ?_)
                  · have h57 := of_decide_eq_true h57
                    refine RunL.still rfl rfl rfl (Still.move rfl rfl) ?_
                    refine RunL.still rfl rfl rfl (Still.fieldAddrL (off := 0) (off' := 1) rfl rfl Tryz.underlying34 rfl Tryz.sizeOf32 rfl) ?_
                    refine RunL.still rfl rfl rfl (Still.indexArrNL rfl rfl rfl Tryz.underlying32 Tryz.sizeOf3 (by omega)) ?_
                    refine RunL.still rfl rfl rfl (Still.load (v := iv ((fAt g t f).p.at f)) rfl rfl Tryz.isAgg3 (fun _ hs => cell_nth (hs.at (i := 0) rfl) (nth_p4o hf4))) ?_
                    refine RunL.still rfl rfl rfl (Still.move rfl rfl) ?_
                    refine RunL.still rfl rfl rfl (Still.eql rfl rfl rfl) ?_
                    refine RunL.still rfl rfl rfl (Still.pickT rfl rfl rfl) ?_
                    refine RunL.still rfl rfl rfl (Still.pickF rfl rfl rfl) ?_
                    refine RunL.nil ?_
                    refine Ends.then ?_
                    refine RunC.cond rfl (fun h65 => ?_) (fun h65 => ?_)
                    · have h65 := of_decide_eq_true h65
                      refine RunC.seq ?_
                      refine RunC.region ?_
                      refine RunL.still rfl rfl rfl (Still.assign rfl rfl) ?_
                      refine RunL.nil ?_
                      refine Ends.then ?_
                      refine RunC.ret ?_
                      refine Ends.then_ret ?_
                      refine Ends.block_ret ?_
                      refine Ends.then_ret ?_
                      refine Ends.then_ret ?_
                      refine Ends.block_ret ?_
                      refine Ends.block_ret ?_
                      refine Ends.then_ret ?_
                      refine Ends.then_ret ?_
                      refine Ends.block_ret ?_
                      refine Ends.then_ret ?_
                      refine Ends.leave (.inl rfl) (fun _ _ ok => results1 Tryz.results11 (Holds.tmp rfl) ok) (fun w5 hs => ?_)
                      exact Ret.intro () trivial (by rw [chkG_bad (not_okG htN hf4 (faceOk_bad hno (fun h => h.ne ⟨h57, h65⟩)))]) (HSub.nil _) hs
                    · have h65 := of_decide_eq_false h65
                      have hne : ¬ ((fAt g t f).tet = t ∧ (fAt g t f).p.at f = f) := fun e => h65 e.2
                      refine RunC.skip ?_
                      refine Ends.then ?_
                      refine RunC.seq ?_
                      refine RunC.draw 16 (.still 0 (.still 1 (.still 2 (.still 3 (.still 4 (.still 5 (.still 6 (.still 7 (.still 8 (.still 9 (.still 10 (.still 11 (.still 12 (.still 13 (.one 14 (.still 15 .done)))))))))))))))) (by kernel_rfl) (by kernel_rfl) ?_
                      refine RunG.still rfl rfl rfl rfl (Still.fieldAddrL (off := 0) (off' := 0) rfl rfl Tryz.underlying24 rfl Tryz.sizeOf22 rfl) ?_
                      refine RunG.still rfl rfl rfl rfl (Still.load rfl rfl Tryz.isAgg22 (fun _ hs => cell_nth (hs.at (i := 1) rfl) rfl)) ?_
                      refine RunG.still rfl rfl rfl rfl (Still.fieldAddrL (off := 0) (off' := 0) rfl rfl Tryz.underlying34 rfl Tryz.sizeOf3 rfl) ?_
                      refine RunG.still rfl rfl rfl rfl (Still.load rfl rfl Tryz.isAgg3 (fun _ hs => cell_nth (hs.at (i := 0) rfl) rfl)) ?_
                      refine RunG.still rfl rfl rfl rfl (Still.move rfl rfl) ?_
                      refine RunG.still rfl rfl rfl rfl (Still.fieldAddrL (off := 0) (off' := 1) rfl rfl Tryz.underlying34 rfl Tryz.sizeOf32 rfl) ?_
                      refine RunG.still rfl rfl rfl rfl (Still.indexArrNL rfl rfl rfl Tryz.underlying32 Tryz.sizeOf3 (by omega)) ?_
                      refine RunG.still rfl rfl rfl rfl (Still.load (v := iv ((fAt g t f).p.at f)) rfl rfl Tryz.isAgg3 (fun _ hs => cell_nth (hs.at (i := 0) rfl) (nth_p4o hf4))) ?_
                      have hpf := okP_at hok f
                      refine RunG.still rfl rfl rfl rfl (Still.indexSliceE (fAt g t f).tet.toNat rfl rfl rfl Tryz.underlying22 Tryz.sizeOf35 (hg.base (by omega)) (by omega) (by omega)) ?_
                      refine RunG.still rfl rfl rfl rfl (Still.indexArrE ((fAt g t f).p.at f).toNat rfl rfl rfl Tryz.underlying35 Tryz.sizeOf34 (by omega) (by omega)) ?_
                      refine RunG.still rfl rfl rfl rfl (Still.loads rfl rfl Tryz.isAgg34 Tryz.sizeOf34 (vs := [iv (fAt g (fAt g t f).tet.toNat ((fAt g t f).p.at f).toNat).tet, iv (fAt g (fAt g t f).tet.toNat ((fAt g t f).p.at f).toNat).p.a0, iv (fAt g (fAt g t f).tet.toNat ((fAt g t f).p.at f).toNat).p.a1, iv (fAt g (fAt g t f).tet.toNat ((fAt g t f).p.at f).toNat).p.a2, iv (fAt g (fAt g t f).tet.toNat ((fAt g t f).p.at f).toNat).p.a3]) rfl (fun _ hs => (hg.sym hs).face (tAt_get (by omega)) (by omega))) ?_
                      refine RunG.still rfl rfl rfl rfl (Still.move rfl rfl) ?_
                      refine RunG.still rfl rfl rfl rfl (Still.fieldAddrL (off := 0) (off' := 1) rfl rfl Tryz.underlying34 rfl Tryz.sizeOf32 rfl) ?_
                      refine RunG.still rfl rfl rfl rfl (Still.loads rfl rfl Tryz.isAgg32 Tryz.sizeOf32 (vs := [_, _, _, _]) rfl (fun _ hs => cells_nth (hs.at (i := 0) rfl) ⟨rfl, ⟨rfl, ⟨rfl, ⟨rfl, trivial⟩⟩⟩⟩)) ?_
                      refine RunG.grows rfl rfl rfl rfl (Grows.call (vs := #[_]) rfl rfl Tryz.call38 (fun w hs => rf_Inverse_ok _ w hok)) (fun _ _ => ?_)
                      refine RunG.still rfl rfl rfl rfl (Still.build_1_4 (fun x0_0 x1_0 x1_1 x1_2 x1_3 => .agg #[x0_0, x1_0, x1_1, x1_2, x1_3]) rfl rfl rfl (fun _ => by kernel_rfl)) ?_
                      refine RunG.done ?_
                      show RunL _ _ _ [_] _ _
                      refine RunL.still rfl rfl rfl (Still.neqAgg rfl rfl rfl Tryz.eqGuardType34 (fun _ => eqF _ _ _ _ _ _ _ _ _ _ _ _)) ?_
                      refine RunL.nil ?_
                      refine Ends.then ?_
                      refine RunC.cond rfl (fun h82 => ?_) (fun h82 => ?_)
                      · skip
                        refine RunC.seq ?_
                        refine RunC.region ?_
                        refine RunL.still rfl rfl rfl (Still.assign rfl rfl) ?_
                        refine RunL.nil ?_
                        refine Ends.then ?_
                        refine RunC.ret ?_
                        refine Ends.block_ret ?_
                        refine Ends.then_ret ?_
                        refine Ends.then_ret ?_
                        refine Ends.block_ret ?_
                        refine Ends.block_ret ?_
                        refine Ends.then_ret ?_
                        refine Ends.then_ret ?_
                        refine Ends.block_ret ?_
                        refine Ends.then_ret ?_
                        refine Ends.leave (.inl rfl) (fun _ _ ok => results1 Tryz.results11 (Holds.tmp rfl) ok) (fun w6 hs => ?_)
                        exact Ret.intro () trivial (by rw [chkG_bad (not_okG htN hf4 (faceOk_bad hno (fun h => bnd_t h82 (fc_eq.2 h.back))))]) (HSub.nil _) hs
                      · skip
                        refine RunC.skip ?_
                        refine Ends.block ?_
                        refine Ends.then ?_
                        refine RunC.region ?_
                        refine RunL.still rfl rfl rfl (Still.move rfl rfl) ?_
                        refine RunL.still rfl rfl rfl (Still.add rfl rfl rfl (fits64 (by omega) (by omega))) ?_
                        refine RunL.still rfl rfl rfl (Still.assign rfl rfl) ?_
                        refine RunL.nil ?_
                        refine Ends.again (f + 1) ?_ ?_ (Fr.Sub.app ?_ ?_) ?_
                        · exact ⟨by omega, ChkI.next hf4 hI2 (faceOk_iff.2 (.inr ⟨by omega, by omega, hok, hne, fc_eq.1 (bnd_f h82)⟩))⟩
                        · show _ < _; omega
                        · exact Fr.Sub.cons rfl (Fr.Sub.nil _)
                        · exact Fr.Sub.cons rfl (Fr.Sub.cons rfl (Fr.Sub.cons rfl (Fr.Sub.nil _)))
                        · exact HSub.pick 1 rfl (HSub.nil _)
                  · have h57 := of_decide_eq_false h57
                    have hne : ¬ ((fAt g t f).tet = t ∧ (fAt g t f).p.at f = f) := fun e => h57 e.1
                    refine RunL.off rfl rfl rfl ?_
                    refine RunL.off rfl rfl rfl ?_
                    refine RunL.off rfl rfl rfl ?_
                    refine RunL.off rfl rfl rfl ?_
                    refine RunL.off rfl rfl rfl ?_
                    refine RunL.off rfl rfl rfl ?_
                    refine RunL.still rfl rfl rfl (Still.pickF rfl rfl rfl) ?_
                    refine RunL.still rfl rfl rfl (Still.pickF rfl rfl rfl) ?_
                    refine RunL.nil ?_
                    refine Ends.then ?_
                    refine RunC.cond_false rfl ?_
                    refine RunC.skip ?_
                    refine Ends.then ?_
                    refine RunC.seq ?_
                    refine RunC.draw 16 (.still 0 (.still 1 (.still 2 (.still 3 (.still 4 (.still 5 (.still 6 (.still 7 (.still 8 (.still 9 (.still 10 (.still 11 (.still 12 (.still 13 (.one 14 (.still 15 .done)))))))))))))))) (by kernel_rfl) (by kernel_rfl) ?_
                    refine RunG.still rfl rfl rfl rfl (Still.fieldAddrL (off := 0) (off' := 0) rfl rfl Tryz.underlying24 rfl Tryz.sizeOf22 rfl) ?_
                    refine RunG.still rfl rfl rfl rfl (Still.load rfl rfl Tryz.isAgg22 (fun _ hs => cell_nth (hs.at (i := 1) rfl) rfl)) ?_
                    refine RunG.still rfl rfl rfl rfl (Still.fieldAddrL (off := 0) (off' := 0) rfl rfl Tryz.underlying34 rfl Tryz.sizeOf3 rfl) ?_
                    refine RunG.still rfl rfl rfl rfl (Still.load rfl rfl Tryz.isAgg3 (fun _ hs => cell_nth (hs.at (i := 0) rfl) rfl)) ?_
                    refine RunG.still rfl rfl rfl rfl (Still.move rfl rfl) ?_
                    refine RunG.still rfl rfl rfl rfl (Still.fieldAddrL (off := 0) (off' := 1) rfl rfl Tryz.underlying34 rfl Tryz.sizeOf32 rfl) ?_
                    refine RunG.still rfl rfl rfl rfl (Still.indexArrNL rfl rfl rfl Tryz.underlying32 Tryz.sizeOf3 (by omega)) ?_
                    refine RunG.still rfl rfl rfl rfl (Still.load (v := iv ((fAt g t f).p.at f)) rfl rfl Tryz.isAgg3 (fun _ hs => cell_nth (hs.at (i := 0) rfl) (nth_p4o hf4))) ?_
                    have hpf := okP_at hok f
                    refine RunG.still rfl rfl rfl rfl (Still.indexSliceE (fAt g t f).tet.toNat rfl rfl rfl Tryz.underlying22 Tryz.sizeOf35 (hg.base (by omega)) (by omega) (by omega)) ?_
                    refine RunG.still rfl rfl rfl rfl (Still.indexArrE ((fAt g t f).p.at f).toNat rfl rfl rfl Tryz.underlying35 Tryz.sizeOf34 (by omega) (by omega)) ?_
                    refine RunG.still rfl rfl rfl rfl (Still.loads rfl rfl Tryz.isAgg34 Tryz.sizeOf34 (vs := [iv (fAt g (fAt g t f).tet.toNat ((fAt g t f).p.at f).toNat).tet, iv (fAt g (fAt g t f).tet.toNat ((fAt g t f).p.at f).toNat).p.a0, iv (fAt g (fAt g t f).tet.toNat ((fAt g t f).p.at f).toNat).p.a1, iv (fAt g (fAt g t f).tet.toNat ((fAt g t f).p.at f).toNat).p.a2, iv (fAt g (fAt g t f).tet.toNat ((fAt g t f).p.at f).toNat).p.a3]) rfl (fun _ hs => (hg.sym hs).face (tAt_get (by omega)) (by omega))) ?_
                    refine RunG.still rfl rfl rfl rfl (Still.move rfl rfl) ?_
                    refine RunG.still rfl rfl rfl rfl (Still.fieldAddrL (off := 0) (off' := 1) rfl rfl Tryz.underlying34 rfl Tryz.sizeOf32 rfl) ?_
                    refine RunG.still rfl rfl rfl rfl (Still.loads rfl rfl Tryz.isAgg32 Tryz.sizeOf32 (vs := [_, _, _, _]) rfl (fun _ hs => cells_nth (hs.at (i := 0) rfl) ⟨rfl, ⟨rfl, ⟨rfl, ⟨rfl, trivial⟩⟩⟩⟩)) ?_
                    refine RunG.grows rfl rfl rfl rfl (Grows.call (vs := #[_]) rfl rfl Tryz.call38 (fun w hs => rf_Inverse_ok _ w hok)) (fun _ _ => ?_)
                    refine RunG.still rfl rfl rfl rfl (Still.build_1_4 (fun x0_0 x1_0 x1_1 x1_2 x1_3 => .agg #[x0_0, x1_0, x1_1, x1_2, x1_3]) rfl rfl rfl (fun _ => by kernel_rfl)) ?_
                    refine RunG.done ?_
                    show RunL _ _ _ [_] _ _
                    refine RunL.still rfl rfl rfl (Still.neqAgg rfl rfl rfl Tryz.eqGuardType34 (fun _ => eqF _ _ _ _ _ _ _ _ _ _ _ _)) ?_
                    refine RunL.nil ?_
                    refine Ends.then ?_
                    refine RunC.cond rfl (fun h82 => ?_) (fun h82 => ?_)
                    · skip
                      refine RunC.seq ?_
                      refine RunC.region ?_
                      refine RunL.still rfl rfl rfl (Still.assign rfl rfl) ?_
                      refine RunL.nil ?_
                      refine Ends.then ?_
                      refine RunC.ret ?_
                      refine Ends.block_ret ?_
                      refine Ends.then_ret ?_
                      refine Ends.then_ret ?_
                      refine Ends.block_ret ?_
                      refine Ends.block_ret ?_
                      refine Ends.then_ret ?_
                      refine Ends.then_ret ?_
                      refine Ends.block_ret ?_
                      refine Ends.then_ret ?_
                      refine Ends.leave (.inl rfl) (fun _ _ ok => results1 Tryz.results11 (Holds.tmp rfl) ok) (fun w7 hs => ?_)
                      exact Ret.intro () trivial (by rw [chkG_bad (not_okG htN hf4 (faceOk_bad hno (fun h => bnd_t h82 (fc_eq.2 h.back))))]) (HSub.nil _) hs
                    · skip
                      refine RunC.skip ?_
                      refine Ends.block ?_
                      refine Ends.then ?_
                      refine RunC.region ?_
                      refine RunL.still rfl rfl rfl (Still.move rfl rfl) ?_
                      refine RunL.still rfl rfl rfl (Still.add rfl rfl rfl (fits64 (by omega) (by omega))) ?_
                      refine RunL.still rfl rfl rfl (Still.assign rfl rfl) ?_
                      refine RunL.nil ?_
                      refine Ends.again (f + 1) ?_ ?_ (Fr.Sub.app ?_ ?_) ?_
                      · exact ⟨by omega, ChkI.next hf4 hI2 (faceOk_iff.2 (.inr ⟨by omega, by omega, hok, hne, fc_eq.1 (bnd_f h82)⟩))⟩
                      · show _ < _; omega
                      · exact Fr.Sub.cons rfl (Fr.Sub.nil _)
                      · exact Fr.Sub.cons rfl (Fr.Sub.cons rfl (Fr.Sub.cons rfl (Fr.Sub.nil _)))
                      · exact HSub.pick 1 rfl (HSub.nil _)
        · have h31 := of_decide_eq_false h31
          have hno : fAt g t f ≠ noF := fun e => h31 (by rw [e]; rfl)
          refine RunL.off rfl rfl rfl ?_
          refine RunL.off rfl rfl rfl ?_
          refine RunL.off rfl rfl rfl ?_
          refine RunL.off rfl rfl rfl ?_
          refine RunL.still rfl rfl rfl (Still.pickF rfl rfl rfl) ?_
          refine RunL.nil ?_
          refine Ends.then ?_
          refine RunC.cond_false rfl ?_
          refine RunC.skip ?_
          refine Ends.then ?_
          refine RunC.seq ?_
          refine RunC.seq ?_
          refine RunC.region ?_
          refine RunL.still rfl rfl rfl (Still.fieldAddrL (off := 0) (off' := 0) rfl rfl Tryz.underlying34 rfl Tryz.sizeOf3 rfl) ?_
          refine RunL.still rfl rfl rfl (Still.load rfl rfl Tryz.isAgg3 (fun _ hs => cell_nth (hs.at (i := 0) rfl) rfl)) ?_
          refine RunL.still rfl rfl rfl (Still.lss rfl rfl rfl) ?_
          refine RunL.still rfl rfl rfl (Still.move rfl rfl) ?_
          refine RunL.split (t := 40) rfl (fun h40 => ?_) (fun h40 => ?_)
          · have h40 := of_decide_eq_true h40
            refine RunL.off rfl rfl rfl ?_
            refine RunL.off rfl rfl rfl ?_
            refine RunL.off rfl rfl rfl ?_
            refine RunL.off rfl rfl rfl ?_
            refine RunL.still rfl rfl rfl (Still.pickT rfl rfl rfl) ?_
            refine RunL.still rfl rfl rfl (Still.move rfl rfl) ?_
            refine RunL.off rfl rfl rfl ?_
            refine RunL.off rfl rfl rfl ?_
            refine RunL.off rfl rfl rfl ?_
            refine RunL.off rfl rfl rfl ?_
            refine RunL.still rfl rfl rfl (Still.pickT rfl rfl rfl) ?_
            refine RunL.still rfl rfl rfl (Still.move rfl rfl) ?_
            refine RunL.off rfl rfl rfl ?_
            refine RunL.off rfl rfl rfl ?_
            refine RunL.off rfl rfl rfl ?_
            refine RunL.off rfl rfl rfl ?_
            refine RunL.off rfl rfl rfl ?_
            refine RunL.off rfl rfl rfl ?_
            refine RunL.off rfl rfl rfl ?_
            refine RunL.off rfl rfl rfl ?_
            refine RunL.off rfl rfl rfl ?_
            refine RunL.off rfl rfl rfl ?_
            refine RunL.off rfl rfl rfl ?_
            refine RunL.off rfl rfl rfl ?_
            refine RunL.still rfl rfl rfl (Still.pickT rfl rfl rfl) ?_
            refine RunL.nil ?_
            refine Ends.then ?_
            refine RunC.cond_true rfl ?_
            refine RunC.seq ?_
            refine RunC.region ?_
            refine RunL.still rfl rfl rfl (Still.assign rfl rfl) ?_
            refine RunL.nil ?_
            refine Ends.then ?_
            refine RunC.ret ?_
            refine Ends.then_ret ?_
            refine Ends.block_ret ?_
            refine Ends.then_ret ?_
            refine Ends.then_ret ?_
            refine Ends.block_ret ?_
            refine Ends.block_ret ?_
            refine Ends.then_ret ?_
            refine Ends.then_ret ?_
            refine Ends.block_ret ?_
            refine Ends.then_ret ?_
            refine Ends.leave (.inl rfl) (fun _ _ ok => results1 Tryz.results11 (Holds.tmp rfl) ok) (fun w8 hs => ?_)
            exact Ret.intro () trivial (by rw [chkG_bad (not_okG htN hf4 (faceOk_bad hno (fun h => by have := h.lo; omega)))]) (HSub.nil _) hs
          · have h40 := of_decide_eq_false h40
            refine RunL.still rfl rfl rfl (Still.fieldAddrL (off := 0) (off' := 0) rfl rfl Tryz.underlying34 rfl Tryz.sizeOf3 rfl) ?_
            refine RunL.still rfl rfl rfl (Still.load rfl rfl Tryz.isAgg3 (fun _ hs => cell_nth (hs.at (i := 0) rfl) rfl)) ?_
            refine RunL.still rfl rfl rfl (Still.move rfl rfl) ?_
            refine RunL.still rfl rfl rfl (Still.geq rfl rfl rfl) ?_
            refine RunL.still rfl rfl rfl (Still.pickF rfl rfl rfl) ?_
            refine RunL.still rfl rfl rfl (Still.move rfl rfl) ?_
            refine RunL.split (t := 46) rfl (fun h46 => ?_) (fun h46 => ?_)
            · have h46 := of_decide_eq_true h46
              refine RunL.off rfl rfl rfl ?_
              refine RunL.off rfl rfl rfl ?_
              refine RunL.off rfl rfl rfl ?_
              refine RunL.off rfl rfl rfl ?_
              refine RunL.still rfl rfl rfl (Still.pickT rfl rfl rfl) ?_
              refine RunL.still rfl rfl rfl (Still.move rfl rfl) ?_
              refine RunL.off rfl rfl rfl ?_
              refine RunL.off rfl rfl rfl ?_
              refine RunL.off rfl rfl rfl ?_
              refine RunL.off rfl rfl rfl ?_
              refine RunL.off rfl rfl rfl ?_
              refine RunL.off rfl rfl rfl ?_
              refine RunL.off rfl rfl rfl ?_
              refine RunL.off rfl rfl rfl ?_
              refine RunL.off rfl rfl rfl ?_
              refine RunL.off rfl rfl rfl ?_
              refine RunL.off rfl rfl rfl ?_
              refine RunL.off rfl rfl rfl ?_
              refine RunL.still rfl rfl rfl (Still.pickT rfl rfl rfl) ?_
              refine RunL.nil ?_
              refine Ends.then ?_
              refine RunC.cond_true rfl ?_
              refine RunC.seq ?_
              refine RunC.region ?_
              refine RunL.still rfl rfl rfl (Still.assign rfl rfl) ?_
              refine RunL.nil ?_
              refine Ends.then ?_
              refine RunC.ret ?_
              refine Ends.then_ret ?_
              refine Ends.block_ret ?_
              refine Ends.then_ret ?_
              refine Ends.then_ret ?_
              refine Ends.block_ret ?_
              refine Ends.block_ret ?_
              refine Ends.then_ret ?_
              refine Ends.then_ret ?_
              refine Ends.block_ret ?_
              refine Ends.then_ret ?_
              refine Ends.leave (.inl rfl) (fun _ _ ok => results1 Tryz.results11 (Holds.tmp rfl) ok) (fun w9 hs => ?_)
              exact Ret.intro () trivial (by rw [chkG_bad (not_okG htN hf4 (faceOk_bad hno (fun h => by have := h.hi; omega)))]) (HSub.nil _) hs
            · have h46 := of_decide_eq_false h46
              refine RunL.still rfl rfl rfl (Still.fieldAddrL (off := 0) (off' := 1) rfl rfl Tryz.underlying34 rfl Tryz.sizeOf32 rfl) ?_
              refine RunL.still rfl rfl rfl (Still.loads rfl rfl Tryz.isAgg32 Tryz.sizeOf32 (vs := [_, _, _, _]) rfl (fun _ hs => cells_nth (hs.at (i := 0) rfl) ⟨rfl, ⟨rfl, ⟨rfl, ⟨rfl, trivial⟩⟩⟩⟩)) ?_
              refine RunL.grows rfl rfl rfl (Grows.call (vs := #[_]) rfl rfl Tryz.call44 (fun w hs => rf_Valid _ w)) (fun _ _ => ?_)
              refine RunL.still rfl rfl rfl (Still.not rfl rfl) ?_
              refine RunL.still rfl rfl rfl (Still.pickF rfl rfl rfl) ?_
              refine RunL.still rfl rfl rfl (Still.move rfl rfl) ?_
              refine RunL.split (t := 52) rfl (fun h52 => ?_) (fun h52 => ?_)
              · skip
                refine RunL.off rfl rfl rfl ?_
                refine RunL.off rfl rfl rfl ?_
                refine RunL.off rfl rfl rfl ?_
                refine RunL.off rfl rfl rfl ?_
                refine RunL.off rfl rfl rfl ?_
                refine RunL.off rfl rfl rfl ?_
                refine RunL.off rfl rfl rfl ?_
                refine RunL.off rfl rfl rfl ?_
                refine RunL.off rfl rfl rfl ?_
                refine RunL.off rfl rfl rfl ?_
                refine RunL.off rfl rfl rfl ?_
                refine RunL.off rfl rfl rfl ?_
                refine RunL.still rfl rfl rfl (Still.pickT rfl rfl rfl) ?_
                refine RunL.nil ?_
                refine Ends.then ?_
                refine RunC.cond_true rfl ?_
                refine RunC.seq ?_
                refine RunC.region ?_
                refine RunL.still rfl rfl rfl (Still.assign rfl rfl) ?_
                refine RunL.nil ?_
                refine Ends.then ?_
                refine RunC.ret ?_
                refine Ends.then_ret ?_
                refine Ends.block_ret ?_
                refine Ends.then_ret ?_
                refine Ends.then_ret ?_
                refine Ends.block_ret ?_
                refine Ends.block_ret ?_
                refine Ends.then_ret ?_
                refine Ends.then_ret ?_
                refine Ends.block_ret ?_
                refine Ends.then_ret ?_
                refine Ends.leave (.inl rfl) (fun _ _ ok => results1 Tryz.results11 (Holds.tmp rfl) ok) (fun w10 hs => ?_)
                exact Ret.intro () trivial (by rw [chkG_bad (not_okG htN hf4 (faceOk_bad hno (fun h => by rw [h.ok] at h52; cases h52)))]) (HSub.nil _) hs
              · have hok : okP (fAt g t f).p = true := by simpa using h52
                refine RunL.still rfl rfl rfl (Still.fieldAddrL (off := 0) (off' := 0) rfl rfl Tryz.underlying34 rfl Tryz.sizeOf3 rfl) ?_
                refine RunL.still rfl rfl rfl (Still.load rfl rfl Tryz.isAgg3 (fun _ hs => cell_nth (hs.at (i := 0) rfl) rfl)) ?_
                refine RunL.still rfl rfl rfl (Still.move rfl rfl) ?_
                refine RunL.still rfl rfl rfl (Still.eql rfl rfl rfl) ?_
                refine RunL.still rfl rfl rfl (Still.move rfl rfl) ?_
                refine RunL.split (t := 57) rfl (fun h57 => ?_) (fun h57 => ?_)
                · have h57 := of_decide_eq_true h57
                  refine RunL.still rfl rfl rfl (Still.move rfl rfl) ?_
                  refine RunL.still rfl rfl rfl (Still.fieldAddrL (off := 0) (off' := 1) rfl rfl Tryz.underlying34 rfl Tryz.sizeOf32 rfl) ?_
                  refine RunL.still rfl rfl rfl (Still.indexArrNL rfl rfl rfl Tryz.underlying32 Tryz.sizeOf3 (by omega)) ?_
                  refine RunL.still rfl rfl rfl (Still.load (v := iv ((fAt g t f).p.at f)) rfl rfl Tryz.isAgg3 (fun _ hs => cell_nth (hs.at (i := 0) rfl) (nth_p4o hf4))) ?_
                  refine RunL.still rfl rfl rfl (Still.move rfl rfl) ?_
                  refine RunL.still rfl rfl rfl (Still.eql rfl rfl rfl) ?_
                  refine RunL.still rfl rfl rfl (Still.pickT rfl rfl rfl) ?_
                  refine RunL.still rfl rfl rfl (Still.pickF rfl rfl rfl) ?_
                  refine RunL.nil ?_
                  refine Ends.then ?_
                  refine RunC.cond rfl (fun h65 => ?_) (fun h65 => ?_)
                  · have h65 := of_decide_eq_true h65
                    refine RunC.seq ?_
                    refine RunC.region ?_
                    refine RunL.still rfl rfl rfl (Still.assign rfl rfl) ?_
                    refine RunL.nil ?_
                    refine Ends.then ?_
                    refine RunC.ret ?_
                    refine Ends.then_ret ?_
                    refine Ends.block_ret ?_
                    refine Ends.then_ret ?_
                    refine Ends.then_ret ?_
                    refine Ends.block_ret ?_
                    refine Ends.block_ret ?_
                    refine Ends.then_ret ?_
                    refine Ends.then_ret ?_
                    refine Ends.block_ret ?_
                    refine Ends.then_ret ?_
                    refine Ends.leave (.inl rfl) (fun _ _ ok => results1 Tryz.results11 (Holds.tmp rfl) ok) (fun w11 hs => ?_)
                    exact Ret.intro () trivial (by rw [chkG_bad (not_okG htN hf4 (faceOk_bad hno (fun h => h.ne ⟨h57, h65⟩)))]) (HSub.nil _) hs
                  · have h65 := of_decide_eq_false h65
                    have hne : ¬ ((fAt g t f).tet = t ∧ (fAt g t f).p.at f = f) := fun e => h65 e.2
                    refine RunC.skip ?_
                    refine Ends.then ?_
                    refine RunC.seq ?_
                    refine RunC.draw 16 (.still 0 (.still 1 (.still 2 (.still 3 (.still 4 (.still 5 (.still 6 (.still 7 (.still 8 (.still 9 (.still 10 (.still 11 (.still 12 (.still 13 (.one 14 (.still 15 .done)))))))))))))))) (by kernel_rfl) (by kernel_rfl) ?_
                    refine RunG.still rfl rfl rfl rfl (Still.fieldAddrL (off := 0) (off' := 0) rfl rfl Tryz.underlying24 rfl Tryz.sizeOf22 rfl) ?_
                    refine RunG.still rfl rfl rfl rfl (Still.load rfl rfl Tryz.isAgg22 (fun _ hs => cell_nth (hs.at (i := 1) rfl) rfl)) ?_
                    refine RunG.still rfl rfl rfl rfl (Still.fieldAddrL (off := 0) (off' := 0) rfl rfl Tryz.underlying34 rfl Tryz.sizeOf3 rfl) ?_
                    refine RunG.still rfl rfl rfl rfl (Still.load rfl rfl Tryz.isAgg3 (fun _ hs => cell_nth (hs.at (i := 0) rfl) rfl)) ?_
                    refine RunG.still rfl rfl rfl rfl (Still.move rfl rfl) ?_
                    refine RunG.still rfl rfl rfl rfl (Still.fieldAddrL (off := 0) (off' := 1) rfl rfl Tryz.underlying34 rfl Tryz.sizeOf32 rfl) ?_
                    refine RunG.still rfl rfl rfl rfl (Still.indexArrNL rfl rfl rfl Tryz.underlying32 Tryz.sizeOf3 (by omega)) ?_
                    refine RunG.still rfl rfl rfl rfl (Still.load (v := iv ((fAt g t f).p.at f)) rfl rfl Tryz.isAgg3 (fun _ hs => cell_nth (hs.at (i := 0) rfl) (nth_p4o hf4))) ?_
                    have hpf := okP_at hok f
                    refine RunG.still rfl rfl rfl rfl (Still.indexSliceE (fAt g t f).tet.toNat rfl rfl rfl Tryz.underlying22 Tryz.sizeOf35 (hg.base (by omega)) (by omega) (by omega)) ?_
                    refine RunG.still rfl rfl rfl rfl (Still.indexArrE ((fAt g t f).p.at f).toNat rfl rfl rfl Tryz.underlying35 Tryz.sizeOf34 (by omega) (by omega)) ?_
                    refine RunG.still rfl rfl rfl rfl (Still.loads rfl rfl Tryz.isAgg34 Tryz.sizeOf34 (vs := [iv (fAt g (fAt g t f).tet.toNat ((fAt g t f).p.at f).toNat).tet, iv (fAt g (fAt g t f).tet.toNat ((fAt g t f).p.at f).toNat).p.a0, iv (fAt g (fAt g t f).tet.toNat ((fAt g t f).p.at f).toNat).p.a1, iv (fAt g (fAt g t f).tet.toNat ((fAt g t f).p.at f).toNat).p.a2, iv (fAt g (fAt g t f).tet.toNat ((fAt g t f).p.at f).toNat).p.a3]) rfl (fun _ hs => (hg.sym hs).face (tAt_get (by omega)) (by omega))) ?_
                    refine RunG.still rfl rfl rfl rfl (Still.move rfl rfl) ?_
                    refine RunG.still rfl rfl rfl rfl (Still.fieldAddrL (off := 0) (off' := 1) rfl rfl Tryz.underlying34 rfl Tryz.sizeOf32 rfl) ?_
                    refine RunG.still rfl rfl rfl rfl (Still.loads rfl rfl Tryz.isAgg32 Tryz.sizeOf32 (vs := [_, _, _, _]) rfl (fun _ hs => cells_nth (hs.at (i := 0) rfl) ⟨rfl, ⟨rfl, ⟨rfl, ⟨rfl, trivial⟩⟩⟩⟩)) ?_
                    refine RunG.grows rfl rfl rfl rfl (Grows.call (vs := #[_]) rfl rfl Tryz.call38 (fun w hs => rf_Inverse_ok _ w hok)) (fun _ _ => ?_)
                    refine RunG.still rfl rfl rfl rfl (Still.build_1_4 (fun x0_0 x1_0 x1_1 x1_2 x1_3 => .agg #[x0_0, x1_0, x1_1, x1_2, x1_3]) rfl rfl rfl (fun _ => by kernel_rfl)) ?_
                    refine RunG.done ?_
                    show RunL _ _ _ [_] _ _
                    refine RunL.still rfl rfl rfl (Still.neqAgg rfl rfl rfl Tryz.eqGuardType34 (fun _ => eqF _ _ _ _ _ _ _ _ _ _ _ _)) ?_
                    refine RunL.nil ?_
                    refine Ends.then ?_
                    refine RunC.cond rfl (fun h82 => ?_) (fun h82 => ?_)
                    · skip
                      refine RunC.seq ?_
                      refine RunC.region ?_
                      refine RunL.still rfl rfl rfl (Still.assign rfl rfl) ?_
                      refine RunL.nil ?_
                      refine Ends.then ?_
                      refine RunC.ret ?_
                      refine Ends.block_ret ?_
                      refine Ends.then_ret ?_
                      refine Ends.then_ret ?_
                      refine Ends.block_ret ?_
                      refine Ends.block_ret ?_
                      refine Ends.then_ret ?_
                      refine Ends.then_ret ?_
                      refine Ends.block_ret ?_
                      refine Ends.then_ret ?_
                      refine Ends.leave (.inl rfl) (fun _ _ ok => results1 Tryz.results11 (Holds.tmp rfl) ok) (fun w12 hs => ?_)
                      exact Ret.intro () trivial (by rw [chkG_bad (not_okG htN hf4 (faceOk_bad hno (fun h => bnd_t h82 (fc_eq.2 h.back))))]) (HSub.nil _) hs
                    · skip
                      refine RunC.skip ?_
                      refine Ends.block ?_
                      refine Ends.then ?_
                      refine RunC.region ?_
                      refine RunL.still rfl rfl rfl (Still.move rfl rfl) ?_
                      refine RunL.still rfl rfl rfl (Still.add rfl rfl rfl (fits64 (by omega) (by omega))) ?_
                      refine RunL.still rfl rfl rfl (Still.assign rfl rfl) ?_
                      refine RunL.nil ?_
                      refine Ends.again (f + 1) ?_ ?_ (Fr.Sub.app ?_ ?_) ?_
                      · exact ⟨by omega, ChkI.next hf4 hI2 (faceOk_iff.2 (.inr ⟨by omega, by omega, hok, hne, fc_eq.1 (bnd_f h82)⟩))⟩
                      · show _ < _; omega
                      · exact Fr.Sub.cons rfl (Fr.Sub.nil _)
                      · exact Fr.Sub.cons rfl (Fr.Sub.cons rfl (Fr.Sub.cons rfl (Fr.Sub.nil _)))
                      · exact HSub.pick 1 rfl (HSub.nil _)
                · have h57 := of_decide_eq_false h57
                  have hne : ¬ ((fAt g t f).tet = t ∧ (fAt g t f).p.at f = f) := fun e => h57 e.1
                  refine RunL.off rfl rfl rfl ?_
                  refine RunL.off rfl rfl rfl ?_
                  refine RunL.off rfl rfl rfl ?_
                  refine RunL.off rfl rfl rfl ?_
                  refine RunL.off rfl rfl rfl ?_
                  refine RunL.off rfl rfl rfl ?_
                  refine RunL.still rfl rfl rfl (Still.pickF rfl rfl rfl) ?_
                  refine RunL.still rfl rfl rfl (Still.pickF rfl rfl rfl) ?_
                  refine RunL.nil ?_
                  refine Ends.then ?_
                  refine RunC.cond_false rfl ?_
                  refine RunC.skip ?_
                  refine Ends.then ?_
                  refine RunC.seq ?_
                  refine RunC.draw 16 (.still 0 (.still 1 (.still 2 (.still 3 (.still 4 (.still 5 (.still 6 (.still 7 (.still 8 (.still 9 (.still 10 (.still 11 (.still 12 (.still 13 (.one 14 (.still 15 .done)))))))))))))))) (by kernel_rfl) (by kernel_rfl) ?_
                  refine RunG.still rfl rfl rfl rfl (Still.fieldAddrL (off := 0) (off' := 0) rfl rfl Tryz.underlying24 rfl Tryz.sizeOf22 rfl) ?_
                  refine RunG.still rfl rfl rfl rfl (Still.load rfl rfl Tryz.isAgg22 (fun _ hs => cell_nth (hs.at (i := 1) rfl) rfl)) ?_
                  refine RunG.still rfl rfl rfl rfl (Still.fieldAddrL (off := 0) (off' := 0) rfl rfl Tryz.underlying34 rfl Tryz.sizeOf3 rfl) ?_
                  refine RunG.still rfl rfl rfl rfl (Still.load rfl rfl Tryz.isAgg3 (fun _ hs => cell_nth (hs.at (i := 0) rfl) rfl)) ?_
                  refine RunG.still rfl rfl rfl rfl (Still.move rfl rfl) ?_
                  refine RunG.still rfl rfl rfl rfl (Still.fieldAddrL (off := 0) (off' := 1) rfl rfl Tryz.underlying34 rfl Tryz.sizeOf32 rfl) ?_
                  refine RunG.still rfl rfl rfl rfl (Still.indexArrNL rfl rfl rfl Tryz.underlying32 Tryz.sizeOf3 (by omega)) ?_
                  refine RunG.still rfl rfl rfl rfl (Still.load (v := iv ((fAt g t f).p.at f)) rfl rfl Tryz.isAgg3 (fun _ hs => cell_nth (hs.at (i := 0) rfl) (nth_p4o hf4))) ?_
                  have hpf := okP_at hok f
                  refine RunG.still rfl rfl rfl rfl (Still.indexSliceE (fAt g t f).tet.toNat rfl rfl rfl Tryz.underlying22 Tryz.sizeOf35 (hg.base (by omega)) (by omega) (by omega)) ?_
                  refine RunG.still rfl rfl rfl rfl (Still.indexArrE ((fAt g t f).p.at f).toNat rfl rfl rfl Tryz.underlying35 Tryz.sizeOf34 (by omega) (by omega)) ?_
                  refine RunG.still rfl rfl rfl rfl (Still.loads rfl rfl Tryz.isAgg34 Tryz.sizeOf34 (vs := [iv (fAt g (fAt g t f).tet.toNat ((fAt g t f).p.at f).toNat).tet, iv (fAt g (fAt g t f).tet.toNat ((fAt g t f).p.at f).toNat).p.a0, iv (fAt g (fAt g t f).tet.toNat ((fAt g t f).p.at f).toNat).p.a1, iv (fAt g (fAt g t f).tet.toNat ((fAt g t f).p.at f).toNat).p.a2, iv (fAt g (fAt g t f).tet.toNat ((fAt g t f).p.at f).toNat).p.a3]) rfl (fun _ hs => (hg.sym hs).face (tAt_get (by omega)) (by omega))) ?_
                  refine RunG.still rfl rfl rfl rfl (Still.move rfl rfl) ?_
                  refine RunG.still rfl rfl rfl rfl (Still.fieldAddrL (off := 0) (off' := 1) rfl rfl Tryz.underlying34 rfl Tryz.sizeOf32 rfl) ?_
                  refine RunG.still rfl rfl rfl rfl (Still.loads rfl rfl Tryz.isAgg32 Tryz.sizeOf32 (vs := [_, _, _, _]) rfl (fun _ hs => cells_nth (hs.at (i := 0) rfl) ⟨rfl, ⟨rfl, ⟨rfl, ⟨rfl, trivial⟩⟩⟩⟩)) ?_
                  refine RunG.grows rfl rfl rfl rfl (Grows.call (vs := #[_]) rfl rfl Tryz.call38 (fun w hs => rf_Inverse_ok _ w hok)) (fun _ _ => ?_)
                  refine RunG.still rfl rfl rfl rfl (Still.build_1_4 (fun x0_0 x1_0 x1_1 x1_2 x1_3 => .agg #[x0_0, x1_0, x1_1, x1_2, x1_3]) rfl rfl rfl (fun _ => by kernel_rfl)) ?_
                  refine RunG.done ?_
                  show RunL _ _ _ [_] _ _
                  refine RunL.still rfl rfl rfl (Still.neqAgg rfl rfl rfl Tryz.eqGuardType34 (fun _ => eqF _ _ _ _ _ _ _ _ _ _ _ _)) ?_
                  refine RunL.nil ?_
                  refine Ends.then ?_
                  refine RunC.cond rfl (fun h82 => ?_) (fun h82 => ?_)
                  · skip
                    refine RunC.seq ?_
                    refine RunC.region ?_
                    refine RunL.still rfl rfl rfl (Still.assign rfl rfl) ?_
                    refine RunL.nil ?_
                    refine Ends.then ?_
                    refine RunC.ret ?_
                    refine Ends.block_ret ?_
                    refine Ends.then_ret ?_
                    refine Ends.then_ret ?_
                    refine Ends.block_ret ?_
                    refine Ends.block_ret ?_
                    refine Ends.then_ret ?_
                    refine Ends.then_ret ?_
                    refine Ends.block_ret ?_
                    refine Ends.then_ret ?_
                    refine Ends.leave (.inl rfl) (fun _ _ ok => results1 Tryz.results11 (Holds.tmp rfl) ok) (fun w13 hs => ?_)
                    exact Ret.intro () trivial (by rw [chkG_bad (not_okG htN hf4 (faceOk_bad hno (fun h => bnd_t h82 (fc_eq.2 h.back))))]) (HSub.nil _) hs
                  · skip
                    refine RunC.skip ?_
                    refine Ends.block ?_
                    refine Ends.then ?_
                    refine RunC.region ?_
                    refine RunL.still rfl rfl rfl (Still.move rfl rfl) ?_
                    refine RunL.still rfl rfl rfl (Still.add rfl rfl rfl (fits64 (by omega) (by omega))) ?_
                    refine RunL.still rfl rfl rfl (Still.assign rfl rfl) ?_
                    refine RunL.nil ?_
                    refine Ends.again (f + 1) ?_ ?_ (Fr.Sub.app ?_ ?_) ?_
                    · exact ⟨by omega, ChkI.next hf4 hI2 (faceOk_iff.2 (.inr ⟨by omega, by omega, hok, hne, fc_eq.1 (bnd_f h82)⟩))⟩
                    · show _ < _; omega
                    · exact Fr.Sub.cons rfl (Fr.Sub.nil _)
                    · exact Fr.Sub.cons rfl (Fr.Sub.cons rfl (Fr.Sub.cons rfl (Fr.Sub.nil _)))
                    · exact HSub.pick 1 rfl (HSub.nil _)
      · have h18 := of_decide_eq_false h18
        obtain rfl : f = 4 := by omega
        refine RunC.exit ?_
        refine Ends.then_exit ?_
        refine Ends.then_exit ?_
        refine Ends.block_exit ?_
        refine Ends.block ?_
        refine Ends.then ?_
        refine RunC.region ?_
        refine RunL.still rfl rfl rfl (Still.move rfl rfl) ?_
        refine RunL.still rfl rfl rfl (Still.add rfl rfl rfl (fits64 (by omega) (by omega))) ?_
        refine RunL.still rfl rfl rfl (Still.assign rfl rfl) ?_
        refine RunL.nil ?_
        refine Ends.again (t + 1) ?_ ?_ (Fr.Sub.app ?_ ?_) ?_
        · exact ⟨by omega, hI2⟩
        · show _ < _; omega
        · exact Fr.Sub.cons rfl (Fr.Sub.nil _)
        · exact Fr.Sub.cons rfl (Fr.Sub.cons rfl (Fr.Sub.nil _))
        · exact HSub.pick 0 rfl (HSub.nil _)
    · have h14 := of_decide_eq_false h14
      obtain rfl : t = g.length := by omega
      refine RunC.exit ?_
      refine Ends.then_exit ?_
      refine Ends.then_exit ?_
      refine Ends.block_exit ?_
      refine Ends.then ?_
      refine RunC.seq ?_
      refine RunC.region ?_
      refine RunL.still rfl rfl rfl (Still.assign rfl rfl) ?_
      refine RunL.nil ?_
      refine Ends.then ?_
      refine RunC.ret ?_
      refine Ends.leave (.inl rfl) (fun _ _ ok => results1 Tryz.results11 (Holds.tmp rfl) ok) (fun w14 hs => ?_)
      exact Ret.intro () trivial (by rw [ChkI.done (by omega) hI]) (HSub.nil _) hs

end Go.Proofs
/- Diagrams as data, part i: texts. -/
namespace Go.V
open Go
def numS (n : Int) : ByteArray := ⟨(Lib.decDigits n.toNat).toArray⟩
def semiS : ByteArray := ⟨#[59, 32]⟩
def barS : ByteArray := ⟨#[32, 124, 32]⟩
def strs (l : List ByteArray) : List Value := l.map Value.string
theorem strs_snoc (l : List ByteArray) (s : ByteArray) : strs l ++ [.string s] = strs (l ++ [s]) := by simp [strs]
theorem lens_le {k : Nat} : ∀ {l : List ByteArray}, (∀ s ∈ l, s.size ≤ k) → Lib.lens (l.map (·.data.toList)) ≤ k * l.length
  | [], _ => Nat.zero_le _
  | s :: r, h => by
    have h1 := lens_le (l := r) (fun x hx => h x (List.mem_cons_of_mem _ hx))
    have h2 := h s (List.mem_cons_self ..)
    have h3 : s.data.toList.length = s.size := Array.length_toList
    simp only [Lib.lens, List.map_cons, List.sum_cons, List.length_cons, h3] at h1 ⊢
    rw [Nat.mul_add]; omega
end Go.V
/- Diagrams as data, part j: the chapter's examples. -/
namespace Go.V
open Go
end Go.V
/- Plain laws, part k: how many components there are; each place lies in exactly one region. -/
namespace Go.V
open Go
end Go.V
/- Numbers as text. -/
namespace Go.V
open Go
theorem decDigits_le (u : Nat) : (Lib.decDigits u).length ≤ u + 1 := by
  induction u using Nat.strongRecOn with
  | ind u ih =>
    rw [Lib.decDigits]
    split
    · simp
    · have := ih (u / 10) (by omega)
      simp only [List.length_append, List.length_singleton]; omega
theorem numS_le (n : Int) : (numS n).size ≤ n.toNat + 1 := by
  show (Lib.decDigits n.toNat).toArray.size ≤ _
  simpa using decDigits_le n.toNat
end Go.V
/- Texts of diagrams: what the reference reads (positions in a text). -/
namespace Go.V
open Go
def byteAt (t : ByteArray) (p : Nat) : Nat := (t.data.toList.getD p 0).toNat
def isDig (t : ByteArray) (p : Nat) : Bool := decide (p < t.size ∧ 48 ≤ byteAt t p ∧ byteAt t p ≤ 57)
/-- Digits from p on, at most f of them; n: what those before spell. -/
def runD (t : ByteArray) : Nat → Nat → Nat → Nat × Nat
  | 0, p, n => (p, n)
  | f + 1, p, n => if isDig t p = true then runD t f (p + 1) (10 * n + byteAt t p - 48) else (p, n)
def numP (t : ByteArray) (p : Nat) : Nat × Nat := runD t 5 p 0
def numOk (t : ByteArray) (p : Nat) : Bool := decide (¬ ((numP t p).1 = p) ∧ numS ((numP t p).2 : Nat) = t.extract p (numP t p).1 ∧ (numP t p).2 ≤ 1000)
def takesB (t : ByteArray) (p : Nat) (s : ByteArray) : Bool := decide (p + s.size ≤ t.size ∧ t.extract p (p + s.size) = s)
def takeP (t : ByteArray) (p : Nat) (s : ByteArray) : Nat := if takesB t p s = true then p + s.size else p
theorem byte_get {t : ByteArray} {p : Nat} (h : p < t.size) : t[p]? = some (UInt8.ofNat (byteAt t p)) := by
  have h1 : p < t.data.toList.length := by rw [Array.length_toList]; exact h
  have : t[p]? = t.data.toList[p]? := by
    rw [Array.getElem?_toList]
    show (if _ : p < t.size then some t[p] else none) = t.data[p]?
    rw [dif_pos h, Array.getElem?_eq_getElem (show p < t.data.size from h)]
    rfl
  rw [this, byteAt, List.getD_eq_getElem?_getD, List.getElem?_eq_getElem h1]
  simp
theorem byteAt_lt (t : ByteArray) (p : Nat) : byteAt t p < 256 := UInt8.toNat_lt _
theorem byteAt_nat (t : ByteArray) (p : Nat) : (UInt8.ofNat (byteAt t p)).toNat = byteAt t p := by simp [byteAt]
theorem isDig_true {t : ByteArray} {p : Nat} (h : isDig t p = true) : p < t.size ∧ 48 ≤ byteAt t p ∧ byteAt t p ≤ 57 := of_decide_eq_true h
theorem runD_small (t : ByteArray) : ∀ (f p n k : Nat), n < 10 ^ k → (runD t f p n).2 < 10 ^ (k + f)
  | 0, p, n, k, h => h
  | f + 1, p, n, k, h => by
    rw [runD]
    split
    · rename_i hd
      have h1 := isDig_true hd
      have := runD_small t f (p + 1) (10 * n + byteAt t p - 48) (k + 1) (by rw [Nat.pow_succ]; omega)
      rwa [show k + (f + 1) = k + 1 + f by omega]
    · exact Nat.lt_of_lt_of_le h (Nat.pow_le_pow_right (by omega) (by omega))
theorem numP_small (t : ByteArray) (p : Nat) : (numP t p).2 < 100000 := runD_small t 5 p 0 0 (by decide)
abbrev spS : ByteArray := ⟨#[32]⟩
abbrev plusS : ByteArray := ⟨#[43]⟩
abbrev minusS : ByteArray := ⟨#[45]⟩
structure Rd where
  p : Nat
  ok : Bool
  l : List Int
/-- One arc's number of a crossing. -/
def arcR (t : ByteArray) (s : Rd) : Rd :=
  let ok1 := s.ok && takesB t s.p spS
  let p1 := if s.ok then takeP t s.p spS else s.p
  ⟨(numP t p1).1, ok1 && numOk t p1, s.l ++ [((numP t p1).2 : Int)]⟩
def arcsR (t : ByteArray) (p : Nat) : Nat → Rd
  | 0 => ⟨p, true, []⟩
  | k + 1 => arcR t (arcsR t p k)
def cr4 (l : List Int) (s : Int) : Cr := ⟨l.getD 0 0, l.getD 1 0, l.getD 2 0, l.getD 3 0, s⟩
theorem arcR_t {t : ByteArray} {s : Rd} (h : s.ok = true) : arcR t s = ⟨(numP t (takeP t s.p spS)).1, takesB t s.p spS && numOk t (takeP t s.p spS), s.l ++ [((numP t (takeP t s.p spS)).2 : Int)]⟩ := by
  rw [arcR, h]; rfl
theorem arcR_f {t : ByteArray} {s : Rd} (h : s.ok = false) : arcR t s = ⟨(numP t s.p).1, false, s.l ++ [((numP t s.p).2 : Int)]⟩ := by
  rw [arcR, h]; rfl
theorem arcR_l (t : ByteArray) (s : Rd) : ∃ n : Nat, n < 100000 ∧ (arcR t s).l = s.l ++ [(n : Int)] := by
  cases ho : s.ok
  · rw [arcR_f ho]; exact ⟨_, numP_small _ _, rfl⟩
  · rw [arcR_t ho]; exact ⟨_, numP_small _ _, rfl⟩
theorem arcsR_small (t : ByteArray) (p : Nat) : ∀ k, ∀ x ∈ (arcsR t p k).l, 0 ≤ x ∧ x < 100000
  | 0, x, hx => by cases hx
  | k + 1, x, hx => by
    obtain ⟨n, hn, h⟩ := arcR_l t (arcsR t p k)
    rw [arcsR, h] at hx
    rcases List.mem_append.1 hx with h1 | h1
    · exact arcsR_small t p k x h1
    · obtain rfl := List.mem_singleton.1 h1; omega
structure Res where
  xs : List Cr
  p : Nat
  ok : Bool
def loopR (t : ByteArray) : Nat → List Cr → Nat → Res
  | 0, xs, p => ⟨xs, p, false⟩
  | f + 1, xs, p =>
    if takesB t p plusS = false ∧ takesB t p minusS = false then ⟨xs, p, decide (xs.length = 0)⟩
    else
      let s : Int := if takesB t p plusS = true then 1 else -1
      let q := arcsR t (p + 1) 4
      let ys := xs ++ [cr4 q.l s]
      if takesB t q.p semiS = true then (if q.ok = true then loopR t f ys (q.p + 2) else ⟨ys, q.p + 2, false⟩)
      else ⟨ys, if q.ok = true then takeP t q.p barS else q.p, q.ok && takesB t q.p barS⟩
theorem getD_small {l : List Int} (h : ∀ x ∈ l, 0 ≤ x ∧ x < 100000) (i : Nat) : 0 ≤ l.getD i 0 ∧ l.getD i 0 < 100000 := by
  rw [List.getD_eq_getElem?_getD]
  cases hi : l[i]? with
  | none => simp
  | some x => exact h x (List.mem_of_getElem? hi)
theorem cr4_wf {t : ByteArray} {p : Nat} {s : Int} (hs : s = 1 ∨ s = -1) : (cr4 (arcsR t p 4).l s).Wf := by
  have h := fun i => getD_small (arcsR_small t p 4) i
  have h0 := h 0; have h1 := h 1; have h2 := h 2; have h3 := h 3
  constructor <;> simp only [cr4, In64] <;> omega
abbrev rdR (t : ByteArray) : Res := loopR t (t.size + 1) [] 0
def sgnOk (t : ByteArray) (p : Nat) (sg : Int) : Prop := ¬ (takesB t p plusS = false ∧ takesB t p minusS = false) ∧ sg = (if takesB t p plusS = true then 1 else -1)
theorem loopR_go {t : ByteArray} {f : Nat} {xs : List Cr} {p : Nat} {sg : Int} (h : sgnOk t p sg) : loopR t (f + 1) xs p = if takesB t (arcsR t (p + 1) 4).p semiS = true then (if (arcsR t (p + 1) 4).ok = true then loopR t f (xs ++ [cr4 (arcsR t (p + 1) 4).l sg]) ((arcsR t (p + 1) 4).p + 2) else ⟨xs ++ [cr4 (arcsR t (p + 1) 4).l sg], (arcsR t (p + 1) 4).p + 2, false⟩) else ⟨xs ++ [cr4 (arcsR t (p + 1) 4).l sg], if (arcsR t (p + 1) 4).ok = true then takeP t (arcsR t (p + 1) 4).p barS else (arcsR t (p + 1) 4).p, (arcsR t (p + 1) 4).ok && takesB t (arcsR t (p + 1) 4).p barS⟩ := by
  rw [loopR, if_neg h.1, h.2]
theorem takeP_1 {t : ByteArray} {p k : Nat} {s : ByteArray} (h : takesB t p s = true) (hk : s.size = k) : takeP t p s = p + k ∧ p + k ≤ t.size := by subst hk; exact ⟨if_pos h, (of_decide_eq_true h).1⟩
theorem wf_snoc {xs : List Cr} {x : Cr} (h : ∀ y ∈ xs, y.Wf) (hx : x.Wf) : ∀ y ∈ xs ++ [x], y.Wf := fun y hy => by
  rcases List.mem_append.1 hy with h1 | h1
  · exact h y h1
  · obtain rfl := List.mem_singleton.1 h1; exact hx
/-- The reference's loop. -/
def PI (t : ByteArray) (xs : List Cr) (p : Nat) (ok : Bool) (f : Nat) : Prop :=
  (ok = true → loopR t f xs p = rdR t ∧ t.size < f + p) ∧ (ok = false → rdR t = ⟨xs, p, false⟩) ∧ p ≤ t.size ∧ (∀ x ∈ xs, x.Wf) ∧ xs.length ≤ p
theorem PI.start (t : ByteArray) : PI t [] 0 true (t.size + 1) := ⟨fun _ => ⟨rfl, by omega⟩, fun h => Bool.noConfusion h, by omega, fun x hx => absurd hx List.not_mem_nil, Nat.le_refl _⟩
theorem PI.fuel {t : ByteArray} {xs : List Cr} {p f : Nat} (h : PI t xs p true f) : 0 < f := by
  have h1 := (h.1 rfl).2
  have h2 := h.2.2.1
  omega
theorem PI.next {t : ByteArray} {xs : List Cr} {p f : Nat} {sg : Int} (h : PI t xs p true (f + 1)) (hg : sgnOk t p sg) (h1 : takesB t (arcsR t (p + 1) 4).p semiS = true) (hk : p + 1 ≤ (arcsR t (p + 1) 4).p ∧ (arcsR t (p + 1) 4).p ≤ t.size) (hs : sg = 1 ∨ sg = -1) :
    PI t (xs ++ [cr4 (arcsR t (p + 1) 4).l sg]) (takeP t (arcsR t (p + 1) 4).p semiS) (arcsR t (p + 1) 4).ok f := by
  have e := takeP_1 h1 (k := 2) rfl
  have h0 := h.1 rfl
  have hb := h.2.2.2.2
  rw [e.1]
  rw [loopR_go hg, if_pos h1] at h0
  refine ⟨fun ho => ?_, fun ho => ?_, e.2, wf_snoc h.2.2.2.1 (cr4_wf hs), by rw [List.length_append]; show xs.length + 1 ≤ _; omega⟩
  · rw [if_pos ho] at h0; exact ⟨h0.1, by omega⟩
  · rw [if_neg (by rw [ho]; exact Bool.false_ne_true)] at h0; exact h0.1.symm
theorem own_oneCell {w : World} {e k n : Nat} {v : Value} {xs : List Value} (h : w.ownsRow 0 e k v n xs) : v.oneCell' = true := by
  obtain ⟨b, c, hv, _⟩ := own_shape h
  rw [hv]; rfl
theorem Still.indexStrB {C : Cx} {F : Fr} {L : List HL} {o : Oper} {t : TypeId} {x ix : Operand} {s : ByteArray} {k : IntKind} (i : Nat) (ho : o.op = .index t x ix) (hx : F.ev x = some (.string s)) (hi : F.ev ix = some (.int k (i : Int)))
    (ht : C.P.underlying t = some .string) (hb : i < s.size) : Still C o F L (.int .u8 (byteAt s i : Nat)) := by
  have := Still.indexStr (C := C) (L := L) ho hx hi ht (by omega) (by rw [show ((i : Int).toNat) = i by omega]; exact byte_get hb)
  rwa [byteAt_nat] at this
theorem wrap_i64 {k : Int} (h0 : -9223372036854775808 ≤ k) (hk : k < 9223372036854775808) : IntKind.i64.wrap k = k := by
  simp [IntKind.wrap, IntKind.bits, IntKind.signed]; omega
end Go.V
/- Texts of diagrams: sizes, joins. -/
namespace Go.V
open Go
theorem numS_mid {n : Int} (h0 : 0 ≤ n) (h : n ≤ 1000) : (numS n).size ≤ 1001 := by have := numS_le n; omega
end Go.V
/- Texts of diagrams: what the program reads. -/
namespace Go.V
open Go
/-- The text of a number from 0 to 1000. -/
def Num (s : ByteArray) (v : Int) : Prop := 0 ≤ v ∧ v ≤ 1000 ∧ s = numS v
theorem Num.size {s : ByteArray} {v : Int} (h : Num s v) : s.size ≤ 1001 := by rw [h.2.2]; exact numS_mid h.1 h.2.1
theorem dig_byte {k : Nat} (h : k < 10) : (UInt8.ofNat (48 + k)).toNat = 48 + k := by rw [UInt8.toNat_ofNat']; omega
theorem parse_dig (u acc : Nat) (h : acc * 10 ^ (Lib.decDigits u).length + u < 1844674407370955162) (l : List UInt8) : Lib.parseUint10 acc (Lib.decDigits u ++ l) = Lib.parseUint10 (acc * 10 ^ (Lib.decDigits u).length + u) l := by
  induction u using Nat.strongRecOn generalizing acc l with
  | ind u ih =>
    by_cases hu : u < 10
    · rw [Lib.decDigits_one hu] at h ⊢
      simp only [List.length_singleton, Nat.pow_one, List.cons_append, List.nil_append] at h ⊢
      have hb := dig_byte hu
      rw [Lib.parseUint10, if_pos (by omega), if_neg (by omega), if_neg (by omega), hb]
      congr 1; omega
    · have e : Lib.decDigits u = Lib.decDigits (u / 10) ++ [UInt8.ofNat (48 + u % 10)] := by rw [Lib.decDigits, dif_neg hu]
      have hl : (Lib.decDigits u).length = (Lib.decDigits (u / 10)).length + 1 := by rw [e]; simp
      rw [hl, Nat.pow_succ] at h
      rw [hl, Nat.pow_succ, e, List.append_assoc, ih (u / 10) (by omega) acc (by
        have h1 : acc * (10 ^ (Lib.decDigits (u / 10)).length * 10) = acc * 10 ^ (Lib.decDigits (u / 10)).length * 10 := by rw [Nat.mul_assoc]
        omega)]
      have hb := dig_byte (Nat.mod_lt u (show 0 < 10 by omega))
      have h1 : acc * (10 ^ (Lib.decDigits (u / 10)).length * 10) = acc * 10 ^ (Lib.decDigits (u / 10)).length * 10 := by rw [Nat.mul_assoc]
      rw [h1] at h ⊢
      rw [List.cons_append, List.nil_append, Lib.parseUint10, if_pos (by omega), if_neg (by omega), if_neg (by omega), hb]
      congr 1; omega
theorem decDigits_ne (u : Nat) : Lib.decDigits u ≠ [] := by
  rw [Lib.decDigits]; split <;> simp
theorem decDigits_dig (u : Nat) : ∀ b ∈ Lib.decDigits u, 48 ≤ b.toNat ∧ b.toNat ≤ 57 := by
  induction u using Nat.strongRecOn with
  | ind u ih =>
    intro b hb
    by_cases hu : u < 10
    · rw [Lib.decDigits_one hu] at hb
      obtain rfl := List.mem_singleton.1 hb
      have := dig_byte hu; omega
    · rw [Lib.decDigits, dif_neg hu] at hb
      rcases List.mem_append.1 hb with h | h
      · exact ih (u / 10) (by omega) b h
      · obtain rfl := List.mem_singleton.1 h
        have := dig_byte (Nat.mod_lt u (show 0 < 10 by omega)); omega
theorem atoi_dec {u : Nat} (h : u < 1000000) : Lib.atoiAll (Lib.decDigits u) = .ok u := by
  have h0 := parse_dig u 0 (by omega) []
  rw [List.append_nil] at h0
  cases hd : Lib.decDigits u with
  | nil => exact absurd hd (decDigits_ne u)
  | cons c r =>
    have hc := decDigits_dig u c (by rw [hd]; exact List.mem_cons_self ..)
    rw [hd] at h0
    rw [Lib.atoiAll, if_neg (by omega), Lib.parseMag, if_neg (by simp), h0]
    simp only [Lib.parseUint10, Nat.zero_mul, Nat.zero_add]
    rw [if_neg (by omega), if_neg (by omega), if_neg (by omega)]
theorem Num.atoi {s : ByteArray} {v : Int} (h : Num s v) : Lib.atoiAll s.data.toList = .ok v := by
  obtain ⟨h0, h1, rfl⟩ := h
  have := atoi_dec (u := v.toNat) (by omega)
  rw [show ((v.toNat : Nat) : Int) = v by omega] at this
  simpa [numS] using this
end Go.V
/- Texts of diagrams: cutting and joining. -/
namespace Go.V
open Go
def pieceAt (p1 p2 p3 p4 : ByteArray) : Nat → ByteArray
  | 0 => p1
  | 1 => p2
  | 2 => p3
  | _ => p4
theorem five {α : Type} {l : List α} (h : l.length = 5) : ∃ a b c d e, l = [a, b, c, d, e] := by
  match l, h with
  | [a, b, c, d, e], _ => exact ⟨a, b, c, d, e, rfl⟩
/-- The numbers so far. -/
def NumsTo (p1 p2 p3 p4 : ByteArray) (l : List Int) : Prop := ∀ j, j < l.length → Num (pieceAt p1 p2 p3 p4 j) (l.getD j 0)
theorem NumsTo.snoc {p1 p2 p3 p4 : ByteArray} {l : List Int} {v : Int} (h : NumsTo p1 p2 p3 p4 l) (hv : Num (pieceAt p1 p2 p3 p4 l.length) v) : NumsTo p1 p2 p3 p4 (l ++ [v]) := fun j hj => by
  rw [List.length_append] at hj
  have hj : j < l.length + 1 := hj
  rcases Nat.lt_or_ge j l.length with h1 | h1
  · have := h j h1
    rw [List.getD_eq_getElem?_getD] at this ⊢
    rwa [List.getElem?_append_left h1]
  · obtain rfl : j = l.length := by omega
    rw [List.getD_eq_getElem?_getD, List.getElem?_append_right (Nat.le_refl _), Nat.sub_self]
    exact hv
end Go.V
/- Texts of gluings. -/
namespace Go.V
open Go
/-- The first digits of a permutation. -/
def dTo (p : P4) : Nat → ByteArray
  | 0 => ⟨#[]⟩
  | k + 1 => dTo p k ++ numS (p.at k)
theorem p4_small {p : P4} (h : okP p = true) (k : Nat) : 0 ≤ p.at k ∧ p.at k ≤ 3 := by
  have := okP_at h k; omega
theorem dTo_size {p : P4} (h : okP p = true) : ∀ k, (dTo p k).size ≤ 1001 * k
  | 0 => Nat.zero_le _
  | k + 1 => by
    have h1 := dTo_size h k
    have h2 := p4_small h k
    have h3 := numS_mid h2.1 (by omega)
    rw [dTo, ByteArray.size_append]; omega
def dashS : ByteArray := ⟨#[45]⟩
def fcS (x : Fc) : List ByteArray := if x.tet < 0 then [dashS] else [numS x.tet, dTo x.p 4]
theorem fcS_neg {x : Fc} (h : x.tet < 0) : fcS x = [dashS] := if_pos h
theorem fcS_pos {x : Fc} (h : ¬ x.tet < 0) : fcS x = [numS x.tet, dTo x.p 4] := if_neg h
/-- The words of a text, up to a face. -/
def wordsTo (g : Glu) : Nat → List ByteArray
  | 0 => [numS g.length]
  | j + 1 => wordsTo g j ++ fcS (fAt g (j / 4) (j % 4))
theorem wordsTo_step {g : Glu} {t f : Nat} (hf : f < 4) : wordsTo g (4 * t + f + 1) = wordsTo g (4 * t + f) ++ fcS (fAt g t f) := by
  rw [wordsTo, show (4 * t + f) / 4 = t by omega, show (4 * t + f) % 4 = f by omega]
theorem wordsTo_pos (g : Glu) : ∀ j, 1 ≤ (wordsTo g j).length
  | 0 => Nat.le_refl _
  | j + 1 => by have := wordsTo_pos g j; rw [wordsTo, List.length_append]; omega
theorem fcS_len (x : Fc) : (fcS x).length ≤ 2 := by rw [fcS]; split <;> simp
theorem wordsTo_len (g : Glu) : ∀ j, (wordsTo g j).length ≤ 1 + 2 * j
  | 0 => Nat.le_refl _
  | j + 1 => by have := wordsTo_len g j; have := fcS_len (fAt g (j / 4) (j % 4)); rw [wordsTo, List.length_append]; omega
theorem wordsTo_size {g : Glu} (h : okG g = true) : ∀ j, j ≤ 4 * g.length → ∀ s ∈ wordsTo g j, s.size ≤ 4004
  | 0, _, s, hs => by
    obtain rfl := List.mem_singleton.1 hs
    have h1 := okG_len h
    have := numS_mid (n := (g.length : Int)) (by omega) (by omega); omega
  | j + 1, hj, s, hs => by
    rcases List.mem_append.1 hs with h1 | h1
    · exact wordsTo_size h j (by omega) s h1
    · have hN := okG_len h
      have ht := okG_tet h (t := j / 4) (f := j % 4) (by omega) (by omega)
      rw [fcS] at h1
      split at h1
      · obtain rfl := List.mem_singleton.1 h1; decide
      · rename_i h0
        have hok := (okG_glued h (t := j / 4) (f := j % 4) (by omega) (by omega) (by omega)).ok
        simp only [List.mem_cons, List.not_mem_nil, or_false] at h1
        rcases h1 with rfl | rfl
        · have := numS_mid (n := (fAt g (j / 4) (j % 4)).tet) (by omega) (by omega); omega
        · have := dTo_size hok 4; omega
def joinW (xs : List ByteArray) : ByteArray := ⟨(Lib.join (xs.map (·.data.toList)) spS.data.toList).toArray⟩
def wordsG (g : Glu) : List ByteArray := wordsTo g (4 * g.length)
def textG (g : Glu) : ByteArray := joinW (wordsG g)
theorem joinW_len {k : Nat} {l : List ByteArray} (h : ∀ s ∈ l, s.size ≤ k) : (Lib.join (l.map (·.data.toList)) spS.data.toList).length ≤ (k + 1) * l.length := by
  cases l with
  | nil => exact Nat.zero_le _
  | cons s r =>
    have h1 := lens_le h
    rw [List.map_cons] at h1 ⊢
    rw [Lib.join_length]
    have : spS.data.toList.length = 1 := rfl
    rw [this]
    simp only [List.length_map, List.length_cons] at h1 ⊢
    rw [Nat.add_mul]; omega
theorem wordsG_len {g : Glu} (h : okG g = true) : (wordsG g).length ≤ 8001 := by
  have h1 := okG_len h
  have h2 := wordsTo_len g (4 * g.length)
  rw [wordsG]; omega
end Go.V
