/- The proof layer, part e: regions that draw their order. Operations that only look are taken as early as they may; what makes memory is taken when nothing else is ready; the tail comes in the order of the text. -/
import Derived.Test.YtbodmnijpdffaaaDoorVd
import Derived.StillTail
namespace Go.V
open Go
def NoQ : Exit → Act → World → Prop := fun _ _ _ => False
section draw
variable {r : Option Nat} {P : Program} {ops : Array Oper} {md : Region.Mode}
/-- 'a'' is 'a' but for one slot (and deferred calls). -/
def But (a a' : Act) (dst : Option Tmp) : Prop := ∃ D u, a' = Act.put { a with defers := D } dst u
/-- In this world and in every later one the operation yields v, or it is not wanted. -/
def Yields' (P : Program) (ops : Array Oper) (o : Oper) (v : Value) (a : Act) (w : World) : Prop :=
  (Region.wanted o (yielded ops a.tmps) = true ∧ ∀ w', Old Nil w w' → (execOp a.eval o).run P w' = .ok (.value v) w') ∨ (Region.wanted o (yielded ops a.tmps) = false ∧ v = undef)
theorem Yields'.later {o : Oper} {v : Value} {a : Act} {w w' : World} (h : Yields' P ops o v a w) (ho : Old Nil w w') : Yields' P ops o v a w' := by
  rcases h with ⟨h1, h2⟩ | h
  · exact .inl ⟨h1, fun w2 h3 => h2 w2 (ho.trans h3)⟩
  · exact .inr h
theorem Yields'.but {o : Oper} {v : Value} {a a' : Act} {w : World} {dst : Option Tmp} (h : Yields' P ops o v a w) (hs : ∀ cs b, o.op ≠ .select cs b) (hb : But a a' dst) (hd : ∀ d, dst = some d → d ∉ o.looksAt ops) : Yields' P ops o v a' w := by
  obtain ⟨D, u, rfl⟩ := hb
  have e1 : execOp (Act.put { a with defers := D } dst u).eval o = execOp a.eval o := (execOp_put o hs { a with defers := D } dst u hd).trans rfl
  have e2 : Region.wanted o (yielded ops (Act.put { a with defers := D } dst u).tmps) = Region.wanted o (yielded ops a.tmps) := (wanted_put o { a with defers := D } dst u hd).trans rfl
  unfold Yields' at *
  rw [e1, e2]
  exact h
theorem Yields'.opIn {i : Nat} {o : Oper} {v : Value} {a : Act} {w : World} {Q : Exit → Act → World → Prop} (hi : ops[i]? = some o) (hd : ∀ c, o.op ≠ .defer c) (h : Yields' P ops o v a w) {K : Act → World → Prop} (hk : K (a.put o.dst v) w) : wpOpIn (FW r) 0 P ops Q i K a w := by
  unfold wpOpIn
  simp only [hi]
  rcases h with ⟨h1, h2⟩ | ⟨h1, rfl⟩
  · simp only [h1, if_true]
    refine ⟨fun _ _ => trivial, ?_⟩
    rw [Oper.semAt_eq _ _ _ hd, h2 w (Old.refl _ w)]
    exact hk
  · simp only [h1, Bool.false_eq_true, if_false]
    exact ⟨fun _ _ => trivial, hk⟩
theorem opIn_put {j : Nat} {oi oj : Oper} {v : Value} {K : Act → World → Prop} {a : Act} {w : World} (hj : ops[j]? = some oj) (hap : oi.apart ops oj = true) (hsj : ∀ cs b, oj.op ≠ .select cs b) (hdj : ∀ c, oj.op ≠ .defer c)
    (h : wpOpIn (FW r) 0 P ops NoQ j K (a.put oi.dst v) w) : wpOpIn (FW r) 0 P ops NoQ j (fun a' w' => But a a' oj.dst ∧ K (a'.put oi.dst v) w') a w := by
  obtain ⟨h1, h2, h3⟩ := Oper.apart_spec hap
  have com : ∀ (a : Act) u, (a.put oi.dst v).put oj.dst u = (a.put oj.dst u).put oi.dst v := fun a u => Act.put_comm a v u h2
  have but : ∀ u, But a (a.put oj.dst u) oj.dst := fun u => ⟨a.defers, u, rfl⟩
  unfold wpOpIn at *
  simp only [hj] at *
  rw [wanted_put oj a oi.dst v h1] at h
  split
  · rename_i hw
    simp only [hw, if_true] at h
    obtain ⟨_, h⟩ := h
    refine ⟨fun _ _ => trivial, ?_⟩
    rw [Oper.semAt_eq _ _ _ hdj] at h ⊢
    rw [execOp_put oj hsj a oi.dst v h1] at h
    generalize (execOp a.eval oj).run P w = res at *
    cases res with
    | ok n w' =>
      cases n <;> simp only [Oper.uponIn] at h ⊢
      case value u => exact ⟨but u, by rw [← com]; exact h⟩
      case skip => exact ⟨but undef, by rw [← com]; exact h⟩
      case defer d =>
        refine ⟨⟨d :: a.defers, undef, rfl⟩, ?_⟩
        rw [Act.put_defers] at h
        rw [← com]; exact h
      case enter f args =>
        exact ⟨h.1, CallsIn.mono h.2 fun e w'' he => by
          cases e with
          | returned u => exact ⟨but u, by rw [← com]; exact he⟩
          | panicked c => exact he
          | outgrown => exact he⟩
      case row row args => exact ⟨h.1, RowsIn.mono h.2 fun u w'' he => ⟨but u, by rw [← com]; exact he⟩⟩
      case round l f tmps as body =>
        exact ⟨h.1, RoundIn.mono h.2 fun e w'' he => by
          cases e with
          | returned u => exact ⟨but u, by rw [← com]; exact he⟩
          | panicked c => exact he
          | outgrown => exact he⟩
    | halt x w' => cases x <;> simp only [Oper.uponIn] at h ⊢ <;> exact h
  · rename_i hw
    simp only [hw] at h
    exact ⟨fun _ _ => trivial, but undef, by rw [← com]; exact h.2⟩
/-- The head of the region, in whatever order; 'E': what is asked where it is done. -/
def wpHead (r : Option Nat) (P : Program) (md : Region.Mode) (ops : Array Oper) (n : Nat) (E : Array Bool → Act → World → Prop) : Nat → Array Bool → Act → World → Prop
  | 0, listed, a, w => E listed a w
  | f + 1, listed, a, w => Region.ready md ops listed ≠ [] ∧ ∀ i ∈ Region.ready md ops listed, i < n ∧ wpOpIn (FW r) 0 P ops NoQ i (fun a' w' => Old Nil w w' ∧ wpHead r P md ops n E f (listed.setIfInBounds i true) a' w') a w
theorem opIn_Q {i : Nat} {K : Act → World → Prop} {Q : Exit → Act → World → Prop} {a : Act} {w : World} (h : wpOpIn (FW r) 0 P ops NoQ i K a w) : wpOpIn (FW r) 0 P ops Q i K a w := by
  unfold wpOpIn at *
  split
  · simpa [*] using h
  · rename_i o ho
    simp only [ho] at h
    split
    · rename_i hw
      simp only [hw, if_true] at h
      refine ⟨h.1, ?_⟩
      have h := h.2
      generalize (o.semAt (FW r).round a.eval).run P w = res at *
      cases res with
      | ok n w' =>
        cases n <;> simp only [Oper.uponIn] at h ⊢ <;>
          first
            | exact h
            | exact ⟨h.1, CallsIn.mono h.2 fun e w'' he => by cases e <;> first | exact he | exact absurd he (by simp [NoQ, LetsOut])⟩
            | exact ⟨h.1, RoundIn.mono h.2 fun e w'' he => by cases e <;> first | exact he | exact absurd he (by simp [NoQ, LetsOut])⟩
      | halt x w' => cases x <;> simp only [Oper.uponIn] at h ⊢ <;> first | exact h | exact h.elim
    · rename_i hw
      simp only [hw] at h
      exact h
theorem wpAny_of_head' {n g : Nat} {E : Array Bool → Act → World → Prop} {Q : Exit → Act → World → Prop} (hE : ∀ listed a w, E listed a w → wpAnyIn (FW r) 0 P md ops Q g listed a w) :
    ∀ (f : Nat) (listed : Array Bool) (a : Act) (w : World), wpHead r P md ops n E f listed a w → wpAnyIn (FW r) 0 P md ops Q (f + g) listed a w
  | 0, listed, a, w, h => by rw [Nat.zero_add]; exact hE _ _ _ h
  | f + 1, listed, a, w, h => by
    rw [show f + 1 + g = (f + g) + 1 by omega]
    exact ⟨fun h0 => absurd h0 h.1, fun i hi => opIn_Q (wpOpIn_mono (fun a' w' h' => wpAny_of_head' hE f _ a' w' h'.2) (h.2 i hi).2)⟩
def noDefer (ops : Array Oper) : Bool := ops.all fun o => match o.op with | .defer .. => false | _ => true
theorem noDefer_spec (h : noDefer ops = true) (j : Nat) (o : Oper) (c : Call) (ho : ops[j]? = some o) : o.op ≠ .defer c := by
  intro heq
  have := Array.all_eq_true_iff_forall_mem.1 h o (Array.mem_of_getElem? ho)
  simp [heq] at this
theorem wpHead_first {n i : Nat} {oi : Oper} {v : Value} {E : Array Bool → Act → World → Prop} (hi : ops[i]? = some oi) (hsel : Region.noSelect ops = true) (hdef : noDefer ops = true)
    (hs : Region.sinkB md ops n = true) (hc : Region.chainB md ops n = true) (hn : n < ops.size) (hin : i < n)
    (hdone : ∀ listed a w, E listed a w → ∀ j ∈ Region.ready md ops listed, n ≤ j) :
    ∀ (f : Nat) (listed : Array Bool) (a : Act) (w : World), HeadInv md ops n listed →
      (∀ j oj, ops[j]? = some oj → j ≠ i → listed.getD j true = false → (∀ e ∈ oj.after, Region.binds md e = true → e.on ≠ i) → oi.apart ops oj = true) →
      i ∈ Region.ready md ops listed → Yields' P ops oi v a w →
      wpHead r P md ops n E f (listed.setIfInBounds i true) (a.put oi.dst v) w → wpHead r P md ops n E (f + 1) listed a w := by
  intro f
  induction f with
  | zero =>
    intro listed a w inv _ hr hy H
    have hun := (mem_ready.1 hr).1
    refine ⟨fun h => (by rw [h] at hr; cases hr), fun j hj => ?_⟩
    have hjn : j < n := by
      rcases Nat.lt_or_ge j n with h | h
      · exact h
      · exact absurd hj (tail_waits hs hc hn inv _ i rfl hin hun j h)
    refine ⟨hjn, ?_⟩
    by_cases hji : j = i
    · subst hji; exact hy.opIn hi (fun c => noDefer_spec hdef j oi c hi) ⟨Old.refl _ w, H⟩
    · have := hdone _ _ _ H j (ready_mono hj hji)
      omega
  | succ f ih =>
    intro listed a w inv hfree hr hy H
    have hun := (mem_ready.1 hr).1
    refine ⟨fun h => (by rw [h] at hr; cases hr), fun j hj => ?_⟩
    have hjn : j < n := by
      rcases Nat.lt_or_ge j n with h | h
      · exact h
      · exact absurd hj (tail_waits hs hc hn inv _ i rfl hin hun j h)
    refine ⟨hjn, ?_⟩
    by_cases hji : j = i
    · subst hji; exact hy.opIn hi (fun c => noDefer_spec hdef j oi c hi) ⟨Old.refl _ w, H⟩
    · have h1 := (H.2 j (ready_mono hj hji)).2
      obtain ⟨hjun, oj, hoj, hall⟩ := mem_ready.1 hj
      have hnot : ∀ e ∈ oj.after, Region.binds md e = true → e.on ≠ i := fun e he hb heq => by
        have h1 := hall e he hb
        rw [heq, getD_both hun] at h1
        cases h1
      have hap := hfree j oj hoj hji hjun hnot
      have h2 := opIn_put hoj hap (fun cs b => Region.noSelect_spec hsel j oj cs b hoj) (fun c => noDefer_spec hdef j oj c hoj) h1
      have hfree' : ∀ k ok, ops[k]? = some ok → k ≠ i → (listed.setIfInBounds j true).getD k true = false →
          (∀ e ∈ ok.after, Region.binds md e = true → e.on ≠ i) → oi.apart ops ok = true := fun k ok hk hki hun hno => by
        refine hfree k ok hk hki ?_ hno
        by_cases hjk : j = k
        · subst hjk; exact hjun
        · rw [getD_set_ne true hjk] at hun; exact hun
      refine wpOpIn_mono (fun a' w' h3 => ⟨h3.2.1, ?_⟩) h2
      refine ih (listed.setIfInBounds j true) a' w' (inv.set hj hjn) hfree' (ready_mono hr (Ne.symm hji)) ((hy.but (fun cs b => Region.noSelect_spec hsel i oi cs b hi) h3.1 (Oper.apart_spec hap).2.2).later h3.2.1) ?_
      rw [Array.setIfInBounds_comm _ _ hji]
      exact h3.2.2
/-- A way through the head: what only looks; what makes memory, alone ready; two or three such that are ready together. -/
inductive Plan where
  | done
  | still (i : Nat) (p : Plan)
  | one (i : Nat) (p : Plan)
  | two (i : Nat) (p : Plan) (j : Nat) (q : Plan)
  | three (i : Nat) (p : Plan) (j : Nat) (q : Plan) (k : Nat) (s : Plan)
def Plan.len : Plan → Nat
  | .done => 0
  | .still _ p => p.len + 1
  | .one _ p => p.len + 1
  | .two _ p _ _ => p.len + 1
  | .three _ p _ _ _ _ => p.len + 1
def GoesOn (r : Option Nat) (P : Program) (ops : Array Oper) (T : Act → World → Prop) : Plan → Act → World → Prop
  | .done, a, w => T a w
  | .still i p, a, w => ∃ o v, ops[i]? = some o ∧ Yields' P ops o v a w ∧ GoesOn r P ops T p (a.put o.dst v) w
  | .one i p, a, w => wpOpIn (FW r) 0 P ops NoQ i (fun a' w' => Old Nil w w' ∧ GoesOn r P ops T p a' w') a w
  | .two i p j q, a, w => wpOpIn (FW r) 0 P ops NoQ i (fun a' w' => Old Nil w w' ∧ GoesOn r P ops T p a' w') a w ∧ wpOpIn (FW r) 0 P ops NoQ j (fun a' w' => Old Nil w w' ∧ GoesOn r P ops T q a' w') a w
  | .three i p j q k s, a, w => wpOpIn (FW r) 0 P ops NoQ i (fun a' w' => Old Nil w w' ∧ GoesOn r P ops T p a' w') a w ∧ wpOpIn (FW r) 0 P ops NoQ j (fun a' w' => Old Nil w w' ∧ GoesOn r P ops T q a' w') a w ∧ wpOpIn (FW r) 0 P ops NoQ k (fun a' w' => Old Nil w w' ∧ GoesOn r P ops T s a' w') a w
def lexG (md : Region.Mode) (ops : Array Oper) (n g : Nat) : Plan → Array Bool → Bool
  | .done, listed => Region.seqB md ops g n listed
  | .still k π, listed => (Region.ready md ops listed).contains k && Region.free md ops listed k && Nat.blt k n && lexG md ops n g π (listed.setIfInBounds k true)
  | .one k π, listed => decide (Region.ready md ops listed = [k]) && Nat.blt k n && lexG md ops n g π (listed.setIfInBounds k true)
  | .two i p j q, listed => decide (Region.ready md ops listed = [i, j]) && Nat.blt i n && Nat.blt j n && Nat.beq p.len q.len && lexG md ops n g p (listed.setIfInBounds i true) && lexG md ops n g q (listed.setIfInBounds j true)
  | .three i p j q k s, listed => decide (Region.ready md ops listed = [i, j, k]) && Nat.blt i n && Nat.blt j n && Nat.blt k n && Nat.beq p.len q.len && Nat.beq p.len s.len && lexG md ops n g p (listed.setIfInBounds i true) && lexG md ops n g q (listed.setIfInBounds j true) && lexG md ops n g s (listed.setIfInBounds k true)
theorem wpHead_of_goes {n g : Nat} {T : Act → World → Prop} (hsel : Region.noSelect ops = true) (hdef : noDefer ops = true) (hs : Region.sinkB md ops n = true) (hc : Region.chainB md ops n = true) (hn : n < ops.size) :
    ∀ (π : Plan) (listed : Array Bool) (a : Act) (w : World), HeadInv md ops n listed → lexG md ops n g π listed = true → GoesOn r P ops T π a w →
    wpHead r P md ops n (fun listed' a' w' => Region.seqB md ops g n listed' = true ∧ T a' w') π.len listed a w
  | .done, listed, a, w, _, hB, h => ⟨hB, h⟩
  | .still k π, listed, a, w, inv, hB, h => by
    simp only [lexG, Bool.and_eq_true] at hB
    obtain ⟨⟨⟨hr, hf⟩, hkn⟩, hB'⟩ := hB
    have hkn' : k < n := by simpa using hkn
    obtain ⟨o, v, ho, hy, hK⟩ := h
    have hr' : k ∈ Region.ready md ops listed := by simpa using hr
    exact wpHead_first ho hsel hdef hs hc hn hkn' (fun listed' a' w' hL => seqB_ready hL.1) π.len listed a w inv (Region.free_spec ho hf) hr' hy
      (wpHead_of_goes hsel hdef hs hc hn π _ _ _ (inv.set hr' hkn') hB' hK)
  | .one k π, listed, a, w, inv, hB, h => by
    simp only [lexG, Bool.and_eq_true, decide_eq_true_eq] at hB
    obtain ⟨⟨hr, hkn⟩, hB'⟩ := hB
    have hkn' : k < n := by simpa using hkn
    refine ⟨by rw [hr]; simp, fun i hi => ?_⟩
    rw [hr] at hi
    have hik : i = k := by simpa using hi
    subst hik
    exact ⟨hkn', wpOpIn_mono (fun a' w' h3 => ⟨h3.1, wpHead_of_goes hsel hdef hs hc hn π _ _ _ (inv.set (by rw [hr]; simp) hkn') hB' h3.2⟩) h⟩
  | .two k p l q, listed, a, w, inv, hB, h => by
    simp only [lexG, Bool.and_eq_true, decide_eq_true_eq] at hB
    obtain ⟨⟨⟨⟨⟨hr, hkn⟩, hln⟩, hlen⟩, hB1⟩, hB2⟩ := hB
    have hlen' : p.len = q.len := Nat.eq_of_beq_eq_true hlen
    have hkn' : k < n := by simpa using hkn
    have hln' : l < n := by simpa using hln
    refine ⟨by rw [hr]; simp, fun i hi => ?_⟩
    rw [hr] at hi
    have hik : i = k ∨ i = l := by simpa using hi
    rcases hik with rfl | rfl
    · exact ⟨hkn', wpOpIn_mono (fun a' w' h3 => ⟨h3.1, wpHead_of_goes hsel hdef hs hc hn p _ _ _ (inv.set (by rw [hr]; simp) hkn') hB1 h3.2⟩) h.1⟩
    · exact ⟨hln', wpOpIn_mono (fun a' w' h3 => ⟨h3.1, by
        show wpHead _ _ _ _ _ _ p.len _ _ _
        rw [hlen']; exact wpHead_of_goes hsel hdef hs hc hn q _ _ _ (inv.set (by rw [hr]; simp) hln') hB2 h3.2⟩) h.2⟩
  | .three k p l q m s, listed, a, w, inv, hB, h => by
    simp only [lexG, Bool.and_eq_true, decide_eq_true_eq] at hB
    obtain ⟨⟨⟨⟨⟨⟨⟨⟨hr, hkn⟩, hln⟩, hmn⟩, hlen⟩, hlen2⟩, hB1⟩, hB2⟩, hB3⟩ := hB
    have hlen' : p.len = q.len := Nat.eq_of_beq_eq_true hlen
    have hlen2' : p.len = s.len := Nat.eq_of_beq_eq_true hlen2
    have hkn' : k < n := by simpa using hkn
    have hln' : l < n := by simpa using hln
    have hmn' : m < n := by simpa using hmn
    refine ⟨by rw [hr]; simp, fun i hi => ?_⟩
    rw [hr] at hi
    have hik : i = k ∨ i = l ∨ i = m := by simpa using hi
    rcases hik with rfl | rfl | rfl
    · exact ⟨hkn', wpOpIn_mono (fun a' w' h3 => ⟨h3.1, wpHead_of_goes hsel hdef hs hc hn p _ _ _ (inv.set (by rw [hr]; simp) hkn') hB1 h3.2⟩) h.1⟩
    · exact ⟨hln', wpOpIn_mono (fun a' w' h3 => ⟨h3.1, by
        show wpHead _ _ _ _ _ _ p.len _ _ _
        rw [hlen']; exact wpHead_of_goes hsel hdef hs hc hn q _ _ _ (inv.set (by rw [hr]; simp) hln') hB2 h3.2⟩) h.2.1⟩
    · exact ⟨hmn', wpOpIn_mono (fun a' w' h3 => ⟨h3.1, by
        show wpHead _ _ _ _ _ _ p.len _ _ _
        rw [hlen2']; exact wpHead_of_goes hsel hdef hs hc hn s _ _ _ (inv.set (by rw [hr]; simp) hmn') hB3 h3.2⟩) h.2.2⟩
theorem wpAny_of_seq' {Q : Exit → Act → World → Prop} : ∀ (l : List Oper) (k : Nat) (listed : Array Bool) (a : Act) (w : World), (∀ j, l[j]? = ops[k + j]?) →
    Region.seqB md ops l.length k listed = true → wpListIn (FW r) 0 P ops Q l a w → wpAnyIn (FW r) 0 P md ops Q l.length listed a w
  | [], k, listed, a, w, _, hB, h => ⟨by simpa [Region.seqB] using hB, h⟩
  | o :: l, k, listed, a, w, hl, hB, h => by
    have h0 : ops[k]? = some o := by simpa using (hl 0).symm
    simp only [List.length_cons, Region.seqB, Bool.and_eq_true, decide_eq_true_eq] at hB
    refine ⟨fun h1 => (by rw [hB.1] at h1; cases h1), fun i hi => ?_⟩
    rw [hB.1] at hi
    have hik : i = k := by simpa using hi
    subst hik
    have hw : wpOpIn (FW r) 0 P ops Q i (wpListIn (FW r) 0 P ops Q l) a w := by unfold wpOpIn; simp only [h0]; exact h
    exact wpOpIn_mono (fun a' w' h' => wpAny_of_seq' l (i + 1) _ a' w' (fun j => by have := hl (j + 1); simpa [Nat.add_assoc, Nat.add_comm 1 j] using this) hB.2 h') hw
/-- All checks of a region with a head of n operations, taken in the order π. -/
def drawB (ops : Array Oper) (n : Nat) (π : Plan) : Bool :=
  Region.noSelect ops && noDefer ops && Nat.blt n ops.size && Region.sinkB .any ops n && Region.chainB .any ops n && Nat.beq π.len n && lexG .any ops n (ops.size - n) π (Array.replicate ops.size false)
theorem wpIn_draw {id : Nat} {Q : Exit → Act → World → Prop} {a : Act} {w : World} {l : List Oper} (n : Nat) (π : Plan) (hm : P.follows .mixedOrders = true) (hB : drawB l.toArray n π = true)
    (h : GoesOn r P l.toArray (fun a' w' => wpListIn (FW r) 0 P l.toArray Q (l.drop n) a' w') π a w.drew) : (Code.region id l.toArray true).wpIn (FW r) 0 P Q a w := by
  simp only [drawB, Bool.and_eq_true] at hB
  obtain ⟨⟨⟨⟨⟨⟨hsel, hdef⟩, hn⟩, hs⟩, hc⟩, hlen⟩, hlex⟩ := hB
  have hn' : n < l.length := by simpa using hn
  have hpl : π.len = n := Nat.eq_of_beq_eq_true hlen
  have hdl : (l.drop n).length = l.toArray.size - n := by simp
  have inv0 : HeadInv .any l.toArray n (Array.replicate l.toArray.size false) :=
    ⟨by simp, fun j oj _ hl => (by rw [getD_replicate_false] at hl; cases hl), fun t _ ht => getD_in (by simpa using ht) (getD_replicate_false _ _)⟩
  have H := wpHead_of_goes (r := r) (P := P) (md := .any) (g := l.toArray.size - n) hsel hdef hs hc (by simpa using hn') π _ a w.drew inv0 hlex h
  refine wpIn_region_any hm ?_
  have := wpAny_of_head' (Q := Q) (g := l.toArray.size - n) (fun listed a' w' hL => by
    have := wpAny_of_seq' (r := r) (P := P) (md := .any) (Q := Q) (l.drop n) n listed a' w' (fun j => by simp [List.getElem?_drop]) (by rw [hdl]; exact hL.1) hL.2
    rwa [hdl] at this) _ _ _ _ H
  rw [hpl, show n + (l.toArray.size - n) = l.toArray.size by simp; omega] at this
  exact this
end draw
/-! ### The same over frames and heaplets -/
def RunG (C : Cx) (ops : Array Oper) (T : Act → World → Prop) (π : Plan) (F : Fr) (L : List HL) : Prop := ∀ a w, Ok C F L a w → GoesOn C.r C.P ops T π a w
section
variable {C : Cx} {Q : Exit → Act → World → Prop} {F : Fr} {L : List HL} {ops : Array Oper} {o : Oper} {T : Act → World → Prop} {π : Plan} {i : Nat}
theorem RunC.draw {id : Nat} {l : List Oper} (n : Nat) (π : Plan) (hm : C.P.follows .mixedOrders = true) (hB : drawB l.toArray n π = true)
    (h : RunG C l.toArray (fun a' w' => wpListIn (FW C.r) 0 C.P l.toArray Q (l.drop n) a' w') π F L) : RunC C (.region id l.toArray true) Q F L := fun a w ok => wpIn_draw n π hm hB (h a w.drew ⟨ok.fr, ok.sym.drew⟩)
theorem RunG.done {l : List Oper} (h : RunL C ops Q l F L) : RunG C ops (fun a' w' => wpListIn (FW C.r) 0 C.P ops Q l a' w') .done F L := h
theorem RunG.still {d : Nat} {v : Value} (ho : ops[i]? = some o) (hw : wants ops F o = some true) (hd : o.dst = some d) (hn : Nat.blt d C.n = true) (hs : Still C o F L v) (h : RunG C ops T π ((d, v) :: F) L) : RunG C ops T (.still i π) F L := fun a w ok => by
  refine ⟨o, v, ho, .inl ⟨wants_ok ok hw, fun w' hold => hs.2 a w' ⟨ok.fr, ok.sym.grow0 hold⟩⟩, h _ w ?_⟩
  rw [hd]
  exact ⟨ok.fr.put (by simpa using hn) v, ok.sym⟩
theorem RunG.off {d : Nat} (ho : ops[i]? = some o) (hw : wants ops F o = some false) (hd : o.dst = some d) (hn : Nat.blt d C.n = true) (h : RunG C ops T π ((d, undef) :: F) L) : RunG C ops T (.still i π) F L := fun a w ok => by
  refine ⟨o, undef, ho, .inr ⟨wants_ok ok hw, rfl⟩, h _ w ?_⟩
  rw [hd]
  exact ⟨ok.fr.put (by simpa using hn) _, ok.sym⟩
/-- A guarded call that is not made (it is no looking operation, but it is off). -/
theorem RunG.off' {d : Nat} (ho : ops[i]? = some o) (hw : wants ops F o = some false) (hd : o.dst = some d) (hn : Nat.blt d C.n = true) (h : RunG C ops T π ((d, undef) :: F) L) : RunG C ops T (.one i π) F L := fun a w ok => by
  show wpOpIn _ _ _ _ _ _ _ _ _
  unfold wpOpIn
  simp only [ho, wants_ok ok hw, Bool.false_eq_true, if_false]
  refine ⟨fun _ _ => trivial, Old.refl _ w, h _ w ?_⟩
  rw [hd]
  exact ⟨ok.fr.put (by simpa using hn) _, ok.sym⟩
theorem RunG.grows {d : Nat} {γ : Type} {φ : γ → Prop} {V : γ → Value} {H : γ → List HL} (ho : ops[i]? = some o) (hw : wants ops F o = some true) (hd : o.dst = some d) (hn : Nat.blt d C.n = true) (hg : Grows C o F L φ V H)
    (h : ∀ g, φ g → RunG C ops T π ((d, V g) :: F) (H g ++ L)) : RunG C ops T (.one i π) F L := fun a w ok => by
  show wpOpIn _ _ _ _ _ _ _ _ _
  unfold wpOpIn
  simp only [ho, wants_ok ok hw, if_true]
  refine hg a w ok _ _ (fun g w' hφ hold hs => ⟨hold, h g hφ _ w' ?_⟩)
  rw [hd]
  exact ⟨ok.fr.put (by simpa using hn) _, hs⟩
theorem RunG.two {i j : Nat} {p q : Plan} (h1 : RunG C ops T (.one i p) F L) (h2 : RunG C ops T (.one j q) F L) : RunG C ops T (.two i p j q) F L := fun a w ok => ⟨h1 a w ok, h2 a w ok⟩
theorem RunG.three {i j k : Nat} {p q s : Plan} (h1 : RunG C ops T (.one i p) F L) (h2 : RunG C ops T (.one j q) F L) (h3 : RunG C ops T (.one k s) F L) : RunG C ops T (.three i p j q k s) F L := fun a w ok => ⟨h1 a w ok, h2 a w ok, h3 a w ok⟩
theorem RunG.split {t : Nat} {b : Bool} (hb : F.get t = some (.bool b)) (h1 : b = true → RunG C ops T π ((t, .bool true) :: F) L) (h2 : b = false → RunG C ops T π ((t, .bool false) :: F) L) : RunG C ops T π F L := fun a w ok => by
  cases hbb : b
  · exact h2 hbb a w (ok.decide hb hbb)
  · exact h1 hbb a w (ok.decide hb hbb)
end
end Go.V
