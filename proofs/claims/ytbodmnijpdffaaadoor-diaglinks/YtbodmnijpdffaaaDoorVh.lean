/- The proof layer, part h: maps that the call owns, with keys of a known make. -/
import Derived.Test.YtbodmnijpdffaaaDoorVg
import Derived.MapKept
namespace Go.V
open Go
/-- Keys of one type, as they lie in Lean. -/
structure MKey (P : Program) (kt : TypeId) {κ : Type} [DecidableEq κ] (enc : κ → Value) : Prop where
  check : ∀ (e : Bool) k w, (Instr.checkKey e 10000 kt (enc k)).run P w = .ok () w
  eq : ∀ k k' w, (Op.equal kt (enc k) (enc k')).run P w = .ok (decide (k = k')) w
  now : ∃ d, P.underlying kt = some d ∧ ∀ k k', Instr.sameNow d (enc k) (enc k') = none ∨ Instr.sameNow d (enc k) (enc k') = some (decide (k = k'))
  same : ∀ k, Instr.sameBits 10000 (enc k) (enc k) = true
section plain
variable {κ : Type} [DecidableEq κ]
def mget : List (κ × Value) → κ → Option Value
  | [], _ => none
  | p :: r, k => if p.1 = k then some p.2 else mget r k
def mput : List (κ × Value) → κ → Value → List (κ × Value)
  | [], k, v => [(k, v)]
  | p :: r, k, v => if p.1 = k then (k, v) :: r else p :: mput r k v
def mfind : List (κ × Value) → κ → Nat → Option (Nat × Value)
  | [], _, _ => none
  | p :: r, k, i => if k = p.1 then some (i, p.2) else mfind r k (i + 1)
theorem mget_mput (l : List (κ × Value)) (k k' : κ) (v : Value) : mget (mput l k v) k' = if k = k' then some v else mget l k' := by
  induction l with
  | nil => simp only [mput, mget]
  | cons p r ih =>
    simp only [mput]
    split
    · rename_i e; simp only [mget, e]; split <;> rfl
    · rename_i e
      simp only [mget, ih]
      by_cases h : p.1 = k'
      · have : ¬ k = k' := fun h2 => e (h.trans h2.symm)
        simp [h, this]
      · simp [h]
theorem mfind_get (l : List (κ × Value)) (k : κ) : ∀ i, (mfind l k i).map (·.2) = mget l k := by
  induction l with
  | nil => intro i; rfl
  | cons p r ih =>
    intro i
    simp only [mfind, mget]
    by_cases h : p.1 = k
    · simp [h]
    · have : ¬ k = p.1 := fun e => h e.symm
      simp [h, this, ih]
theorem mput_new {l : List (κ × Value)} {k : κ} {v : Value} (h : mget l k = none) : mput l k v = l ++ [(k, v)] := by
  induction l with
  | nil => rfl
  | cons p r ih =>
    simp only [mget] at h
    split at h
    · cases h
    · rename_i e; simp only [mput, if_neg e, ih h, List.cons_append]
def Ents (enc : κ → Value) (es : List MapEntry) (l : List (κ × Value)) : Prop := es.map (fun e => (e.key, e.val)) = l.map fun p => (enc p.1, p.2)
theorem Ents.nil {τ : Type} {enc : τ → Value} : Ents enc [] [] := rfl
theorem Ents.cons {τ : Type} {enc : τ → Value} {e : MapEntry} {es : List MapEntry} {p : τ × Value} {l : List (τ × Value)} : Ents enc (e :: es) (p :: l) ↔ (e.key = enc p.1 ∧ e.val = p.2) ∧ Ents enc es l := by
  simp only [Ents, List.map_cons, List.cons.injEq, Prod.mk.injEq]
theorem findAsking_run {P : Program} {kt : TypeId} {enc : κ → Value} (hk : MKey P kt enc) (k : κ) : ∀ (es : List MapEntry) (l : List (κ × Value)) (i : Nat) (w : World), Ents enc es l → (Instr.findAsking kt (enc k) es i).run P w = .ok (mfind l k i) w
  | [], [], i, w, _ => by simp [Instr.findAsking, mfind]
  | [], _ :: _, _, _, h => by simp [Ents] at h
  | _ :: _, [], _, _, h => by simp [Ents] at h
  | e :: es, p :: l, i, w, h => by
    obtain ⟨⟨h1, h2⟩, h3⟩ := Ents.cons.1 h
    have ih := findAsking_run hk k es l (i + 1) w h3
    simp only [Instr.findAsking, h1, Sem.run_bind, hk.eq, Result.andThen_ok, mfind]
    by_cases e : k = p.1
    · simp [e, h2]
    · simp [e, ih]
theorem findNow_run {enc : κ → Value} {d : TypeDesc} (hn : ∀ k k', Instr.sameNow d (enc k) (enc k') = none ∨ Instr.sameNow d (enc k) (enc k') = some (decide (k = k'))) (k : κ) : ∀ (es : List MapEntry) (l : List (κ × Value)) (i : Nat), Ents enc es l → Instr.findNow d (enc k) es i = none ∨ Instr.findNow d (enc k) es i = some (mfind l k i)
  | [], [], i, _ => .inr rfl
  | [], _ :: _, _, h => by simp [Ents] at h
  | _ :: _, [], _, h => by simp [Ents] at h
  | e :: es, p :: l, i, h => by
    obtain ⟨⟨h1, h2⟩, h3⟩ := Ents.cons.1 h
    have ih := findNow_run hn k es l (i + 1) h3
    simp only [Instr.findNow, h1, mfind]
    rcases hn k p.1 with e | e
    · simp [e]
    · by_cases e2 : k = p.1
      · rw [e]; simp [e2, h2]
      · rw [e]; simp [e2, ih]
theorem findKey_run {P : Program} {kt : TypeId} {enc : κ → Value} (hk : MKey P kt enc) (k : κ) {es : List MapEntry} {l : List (κ × Value)} (w : World) (h : Ents enc es l) : (Instr.findKey kt (enc k) es).run P w = .ok (mfind l k 0) w := by
  obtain ⟨d, hd, hn⟩ := hk.now
  simp only [Instr.findKey, Sem.run_bind, run_underlying hd, Result.andThen_ok]
  rcases findNow_run hn k es l 0 h with e | e
  · simp [e, findAsking_run hk k es l 0 w h]
  · simp [e]
theorem mfind_bound {l : List (κ × Value)} {k : κ} : ∀ {i j : Nat} {v : Value}, mfind l k i = some (j, v) → i ≤ j ∧ ∃ p, l[j - i]? = some p ∧ p.1 = k := by
  induction l with
  | nil => intro i j v h; simp [mfind] at h
  | cons p r ih =>
    intro i j v h
    simp only [mfind] at h
    split at h
    · rename_i e; simp at h; obtain ⟨rfl, _⟩ := h; exact ⟨Nat.le_refl _, p, by simp, e.symm⟩
    · obtain ⟨h1, q, hq, e⟩ := ih h
      exact ⟨by omega, q, by rw [show j - i = (j - (i + 1)) + 1 by omega]; simpa using hq, e⟩
theorem ents_modify {enc : κ → Value} {k : κ} {v : Value} {f : MapEntry → MapEntry} (hf : ∀ e, (f e).key = enc k ∧ (f e).val = v) : ∀ {es : List MapEntry} {l : List (κ × Value)} {i j : Nat} {u : Value}, Ents enc es l → mfind l k i = some (j, u) → Ents enc (es.modify (j - i) f) (mput l k v)
  | [], [], _, _, _, _, hm => by simp [mfind] at hm
  | [], _ :: _, _, _, _, h, _ => by simp [Ents] at h
  | _ :: _, [], _, _, _, h, _ => by simp [Ents] at h
  | e :: es, p :: l, i, j, u, h, hm => by
    obtain ⟨⟨h1, h2⟩, h3⟩ := Ents.cons.1 h
    simp only [mfind] at hm
    by_cases e2 : k = p.1
    · rw [if_pos e2] at hm
      simp at hm
      obtain ⟨rfl, _⟩ := hm
      simp only [Nat.sub_self, mput, if_pos e2.symm, List.modify_zero_cons]
      exact Ents.cons.2 ⟨hf e, h3⟩
    · rw [if_neg e2] at hm
      have hb := mfind_bound hm
      rw [show j - i = (j - (i + 1)) + 1 by omega]
      have e3 : ¬ p.1 = k := fun x => e2 x.symm
      simp only [mput, if_neg e3, List.modify_succ_cons]
      exact Ents.cons.2 ⟨⟨h1, h2⟩, ents_modify hf h3 hm⟩
theorem ents_push {enc : κ → Value} {k : κ} {v : Value} {e : MapEntry} (he : e.key = enc k ∧ e.val = v) {es : List MapEntry} {l : List (κ × Value)} (h : Ents enc es l) (hm : mget l k = none) : Ents enc (es ++ [e]) (mput l k v) := by
  rw [mput_new hm]
  simp only [Ents, List.map_append, List.map_cons, List.map_nil] at h ⊢
  rw [h, he.1, he.2]
/-- Block b is a map with these entries. -/
def HL.mp (b : Nat) (enc : κ → Value) (l : List (κ × Value)) : HL :=
  ⟨fun c => c = b, fun w => ∃ es clock, w.heap[b]? = some (.map es clock) ∧ Ents enc es.toList l, fun _ _ h ⟨es, cl, h1, h2⟩ => ⟨es, cl, (h b rfl).trans h1, h2⟩⟩
theorem Sym.obj_mp {τ : Type} {w0 w : World} {S : Nat → Prop} {L : List HL} {b : Nat} (enc : τ → Value) (hs : Sym w0 S (HL.obj b (.map #[] 0) :: L) w) : Sym w0 S (HL.mp b enc [] :: L) w :=
  ⟨hs.old, fun h hm => by
    rcases List.mem_cons.1 hm with rfl | hm
    · exact ⟨#[], 0, hs.holds _ (List.mem_cons_self ..), rfl⟩
    · exact hs.holds h (List.mem_cons_of_mem _ hm),
   fun h hm b' hb => by
    rcases List.mem_cons.1 hm with rfl | hm
    · exact hs.supp _ (List.mem_cons_self ..) b' hb
    · exact hs.supp h (List.mem_cons_of_mem _ hm) b' hb,
   by have := List.pairwise_cons.1 hs.apart; exact List.pairwise_cons.2 ⟨this.1, this.2⟩⟩
end plain
section ops
variable {C : Cx} {F : Fr} {L : List HL} {o : Oper} {κ : Type} [DecidableEq κ]
theorem Grows.makeMapK {τ : Type} {t : TypeId} (enc : τ → Value) (ho : o.op = .makeMap t none) : Grows C o F L (fun _ : Nat => True) (fun b => .map (some b)) (fun b => [HL.mp b enc []]) := fun a w ok next Q h =>
  Grows.makeMap ho a w ok next Q fun g w' hφ hold hs => h g w' hφ hold (Sym.obj_mp enc hs)
theorem lookup_run {P : Program} {w : World} {t kt et : TypeId} {b : Nat} {enc : κ → Value} {l : List (κ × Value)} {z : Value} (k : κ) (hm : (HL.mp b enc l).holds w) (ht : P.underlying t = some (.map kt et)) (hk : MKey P kt enc) (hz : ∀ w, (zeroValue et).run P w = .ok z w) (q : Bool) :
    (Instr.lookup t (.map (some b)) (enc k) q).run P w = .ok (if q then .tuple #[(mget l k).getD z, .bool (mget l k).isSome] else (mget l k).getD z) w := by
  obtain ⟨es, clock, hb, he⟩ := hm
  have hf := findKey_run hk k w he
  have hg := mfind_get l k 0
  simp only [Instr.lookup, Sem.run_bind, run_underlying ht, MapKept.run_getObj_map hb, Result.andThen_ok, Sem.run_pure, hk.check, hf]
  rw [← hg]
  cases hc : mfind l k 0 with
  | none => cases q <;> simp [hz]
  | some p => cases q <;> simp
theorem Still.lookup2 {t kt et : TypeId} {x y : Operand} {i b : Nat} {enc : κ → Value} {l : List (κ × Value)} {z : Value} (k : κ) (ho : o.op = .lookup t x y true) (hx : F.ev x = some (.map (some b))) (hy : F.ev y = some (enc k)) (hi : L[i]? = some (HL.mp b enc l)) (ht : C.P.underlying t = some (.map kt et))
    (hk : MKey C.P kt enc) (hz : ∀ w, (zeroValue et).run C.P w = .ok z w) {v : Value} {s : Bool} (hv : (mget l k).getD z = v) (hs : (mget l k).isSome = s) : Still C o F L (.tuple #[v, .bool s]) :=
  ⟨fun c h => (by rw [ho] at h; cases h), fun a w ok => by
    subst hv; subst hs
    have := lookup_run k (ok.sym.at hi) ht hk hz true
    simp only [execOp, ho, ok.fr.ev hx, ok.fr.ev hy]; simp at this ⊢; simp [this]⟩
theorem Still.lookup1 {t kt et : TypeId} {x y : Operand} {i b : Nat} {enc : κ → Value} {l : List (κ × Value)} {z : Value} (k : κ) (ho : o.op = .lookup t x y false) (hx : F.ev x = some (.map (some b))) (hy : F.ev y = some (enc k)) (hi : L[i]? = some (HL.mp b enc l)) (ht : C.P.underlying t = some (.map kt et))
    (hk : MKey C.P kt enc) (hz : ∀ w, (zeroValue et).run C.P w = .ok z w) {v : Value} (hv : (mget l k).getD z = v) : Still C o F L v :=
  ⟨fun c h => (by rw [ho] at h; cases h), fun a w ok => by
    subst hv
    have := lookup_run k (ok.sym.at hi) ht hk hz false
    simp only [execOp, ho, ok.fr.ev hx, ok.fr.ev hy]; simp at this ⊢; simp [this]⟩
theorem Does.mapUpdate {t kt et : TypeId} {x y z : Operand} {i b : Nat} {enc : κ → Value} {l : List (κ × Value)} {v : Value} (k : κ) (ho : o.op = .mapUpdate t x y z) (hx : F.ev x = some (.map (some b))) (hy : F.ev y = some (enc k)) (hv : F.ev z = some v) (hi : L[i]? = some (HL.mp b enc l)) (ht : C.P.underlying t = some (.map kt et))
    (hk : MKey C.P kt enc) : Does C o F L (fun _ : Unit => True) (fun _ => undef) (fun _ => L.set i (HL.mp b enc (mput l k v))) := fun a w ok next Q h => by
  obtain ⟨es, clock, hb, he⟩ := ok.sym.at hi
  have hf := findKey_run hk k w he
  have hlt : b < w.heap.size := (ok.sym.supp _ (List.mem_of_getElem? hi) b rfl).1
  have key : ∀ (ob : Obj), (∃ es cl, ob = .map es cl ∧ Ents enc es.toList (mput l k v)) → Sym C.w0 C.S (L.set i (HL.mp b enc (mput l k v))) { w with heap := w.heap.setIfInBounds b ob } := by
    rintro ob ⟨es', cl', rfl, he'⟩
    refine ok.sym.turn hi (fun c hc => ⟨.inl hc, by have e : c = b := hc; subst e; simpa using hlt⟩) ⟨rfl, rfl, rfl, by simp, fun j _ hj => ?_⟩ ⟨es', cl', by simp [hlt], he'⟩
    have : b ≠ j := fun e => hj e.symm
    simp [this]
  have hst : (Instr.keyThatStays (enc k) (enc k)).run C.P w = .ok (enc k) w := by simp [Instr.keyThatStays, hk.same]
  cases hc : mfind l k 0 with
  | none =>
    refine wpIn_skip' (fun c h => (by rw [ho] at h; cases h)) (w' := { w with heap := w.heap.setIfInBounds b (.map (es.push { key := enc k, val := v, born := clock }) (clock + 1)) }) ?_ (h () _ trivial (key _ ⟨_, _, rfl, ?_⟩))
    · simp only [execOp, ho, ok.fr.ev hx, ok.fr.ev hy, ok.fr.ev hv]
      simp [Instr.mapUpdate, run_underlying ht, MapKept.run_getObj_map hb, hk.check, hf, hc, MapKept.run_setObj_map _ hb]
    · rw [Array.toList_push]
      exact ents_push (enc := enc) (k := k) (v := v) ⟨rfl, rfl⟩ he (by rw [← mfind_get l k 0, hc]; rfl)
  | some p =>
    obtain ⟨j, u⟩ := p
    obtain ⟨_, q, hq, e⟩ := mfind_bound hc
    have hkey : ((es[j]?).map (·.key)).getD (enc k) = enc k := by
      have h1 := congrArg (fun l => l[j]?) he
      simp only [List.getElem?_map, Array.getElem?_toList] at h1
      simp only [Nat.sub_zero] at hq
      rw [hq] at h1
      cases hej : es[j]? with
      | none => rfl
      | some en => rw [hej] at h1; simp at h1; simp [h1.1, e]
    refine wpIn_skip' (fun c h => (by rw [ho] at h; cases h)) (w' := { w with heap := w.heap.setIfInBounds b (.map (es.modify j fun e => { e with key := enc k, val := v }) clock) }) ?_ (h () _ trivial (key _ ⟨_, _, rfl, ?_⟩))
    · simp only [execOp, ho, ok.fr.ev hx, ok.fr.ev hy, ok.fr.ev hv]
      simp [Instr.mapUpdate, run_underlying ht, MapKept.run_getObj_map hb, hk.check, hf, hc, hkey, hst, MapKept.run_setObj_map _ hb]
    · rw [Array.toList_modify]
      have := ents_modify (v := v) (f := fun e => { e with key := enc k, val := v }) (fun e => ⟨rfl, rfl⟩) he hc
      simpa using this
end ops
/-! ### Keys -/
theorem eq_bool {P : Program} {t : TypeId} (h : P.underlying t = some .bool) (d : Nat) (a b : Bool) (w : World) : (Op.equalIn (d + 1) t (.bool a) (.bool b)).run P w = .ok (decide (a = b)) w := by
  unfold Op.equalIn
  simp [run_underlying h, Bool.beq_eq_decide_eq]
theorem eq_int_bool {P : Program} {t : TypeId} {f0 f1 : Field} {k : IntKind} (ht : P.underlying t = some (.struct #[f0, f1])) (hp : P.stoodInHeld t = false) (h0 : P.underlying f0.type = some (.int k)) (h1 : P.underlying f1.type = some .bool)
    (n0 : f0.name ≠ "_") (n1 : f1.name ≠ "_") (o0 : f0.offset = 0) (o1 : f1.offset = 1) (d : Nat) (a : Int) (b : Bool) (a' : Int) (b' : Bool) (w : World) :
    (Op.equalIn (d + 2) t (.agg #[.int k a, .bool b]) (.agg #[.int k a', .bool b'])).run P w = .ok (decide (a = a' ∧ b = b')) w := by
  have hf : P.fieldsOf t = #[f0, f1] := by simp [Program.fieldsOf, ht]
  have i0 : ∀ w, (isAgg f0.type).run P w = .ok false w := fun w => by simp [isAgg, run_underlying h0]
  have i1 : ∀ w, (isAgg f1.type).run P w = .ok false w := fun w => by simp [isAgg, run_underlying h1]
  rw [run_equalIn_struct w (d + 1) t _ _ (by rw [hf]; exact ht) hp, hf]
  simp [Op.eqFields, n0, n1, part, i0, i1, o0, o1, eq_int h0, eq_bool h1]
  by_cases e0 : a = a' <;> by_cases e1 : b = b' <;> simp [e0, e1]
theorem check_prim {P : Program} {t : TypeId} {d : TypeDesc} (h : P.underlying t = some d) (hd : (∃ k, d = .int k) ∨ d = .bool) (e : Bool) (n : Nat) (v : Value) (w : World) : (Instr.checkKey e (n + 1) t v).run P w = .ok () w := by
  unfold Instr.checkKey
  simp only [Sem.run_bind, run_underlying h, Result.andThen_ok]
  rcases hd with ⟨k, rfl⟩ | rfl <;> cases v <;> simp
theorem check_two {P : Program} {t : TypeId} {f0 f1 : Field} {d0 d1 : TypeDesc} (ht : P.underlying t = some (.struct #[f0, f1])) (h0 : P.underlying f0.type = some d0) (h1 : P.underlying f1.type = some d1) (k0 : (∃ k, d0 = .int k) ∨ d0 = .bool) (k1 : (∃ k, d1 = .int k) ∨ d1 = .bool)
    (n0 : f0.name ≠ "_") (n1 : f1.name ≠ "_") (o0 : f0.offset = 0) (o1 : f1.offset = 1) (e : Bool) (n : Nat) (u v : Value) (w : World) : (Instr.checkKey e (n + 2) t (.agg #[u, v])).run P w = .ok () w := by
  have i0 : ∀ w, (isAgg f0.type).run P w = .ok false w := fun w => by rcases k0 with ⟨k, rfl⟩ | rfl <;> simp [isAgg, run_underlying h0]
  have i1 : ∀ w, (isAgg f1.type).run P w = .ok false w := fun w => by rcases k1 with ⟨k, rfl⟩ | rfl <;> simp [isAgg, run_underlying h1]
  have c0 := fun w => check_prim h0 k0 e n u w
  have c1 := fun w => check_prim h1 k1 e n v w
  unfold Instr.checkKey
  simp [run_underlying ht, n0, n1, part, i0, i1, o0, o1, c0, c1, Sem.run_bind, Result.andThen_ok]
def encU (u : Int × Bool) : Value := .agg #[.int .i64 u.1, .bool u.2]
def encE (u : Int × Int) : Value := .agg #[.int .i64 u.1, .int .i64 u.2]
def encI (u : Int) : Value := .int .i64 u
theorem MKey.intBool {P : Program} {t : TypeId} {f0 f1 : Field} (ht : P.underlying t = some (.struct #[f0, f1])) (hp : P.stoodInHeld t = false) (h0 : P.underlying f0.type = some (.int .i64)) (h1 : P.underlying f1.type = some .bool)
    (n0 : f0.name ≠ "_") (n1 : f1.name ≠ "_") (o0 : f0.offset = 0) (o1 : f1.offset = 1) : MKey P t encU where
  check e k w := check_two ht h0 h1 (.inl ⟨_, rfl⟩) (.inr rfl) n0 n1 o0 o1 e 9998 _ _ w
  eq k k' w := by
    rw [show decide (k = k') = decide (k.1 = k'.1 ∧ k.2 = k'.2) from decide_eq_decide.2 Prod.ext_iff]
    exact eq_int_bool ht hp h0 h1 n0 n1 o0 o1 9998 _ _ _ _ w
  now := ⟨_, ht, fun k k' => .inl rfl⟩
  same k := by simp [encU, Instr.sameBits]
theorem MKey.intInt {P : Program} {t : TypeId} {f0 f1 : Field} (ht : P.underlying t = some (.struct #[f0, f1])) (hp : P.stoodInHeld t = false) (h0 : P.underlying f0.type = some (.int .i64)) (h1 : P.underlying f1.type = some (.int .i64))
    (n0 : f0.name ≠ "_") (n1 : f1.name ≠ "_") (o0 : f0.offset = 0) (o1 : f1.offset = 1) : MKey P t encE where
  check e k w := check_two ht h0 h1 (.inl ⟨_, rfl⟩) (.inl ⟨_, rfl⟩) n0 n1 o0 o1 e 9998 _ _ w
  eq k k' w := by
    rw [show decide (k = k') = decide (k.1 = k'.1 ∧ k.2 = k'.2) from decide_eq_decide.2 Prod.ext_iff]
    exact eq_two ht hp h0 h1 n0 n1 o0 o1 9998 _ _ _ _ w
  now := ⟨_, ht, fun k k' => .inl rfl⟩
  same k := by simp [encE, Instr.sameBits]
theorem MKey.int {P : Program} {t : TypeId} (ht : P.underlying t = some (.int .i64)) : MKey P t encI where
  check e k w := check_prim ht (.inl ⟨_, rfl⟩) e 9999 _ w
  eq k k' w := eq_int ht 9999 _ _ w
  now := ⟨_, ht, fun k k' => .inr (by simp [Instr.sameNow, encI, Bool.beq_eq_decide_eq])⟩
  same k := by simp [encI, Instr.sameBits]
end Go.V
