/- The proof layer, part a: frames as association lists, memory as a list of heaplets. -/
import Derived.WalkKit
import Derived.RangeFuncIn
import Derived.RangeFuncRecord
import Derived.OrdersIn
import Derived.StillTail
import Derived.ChangeKeysEq
import Derived.MapKept
import Derived.Lib.Join
import Derived.Lib.ItoaNum
namespace Go.V
open Go

/-- The fence that lets everything in; 'r': the round in which the code runs. -/
def FW (r : Option Nat) : Fence := { fn := fun _ => True, depth := none, alive := false, round := r }
theorem callsFW {r : Option Nat} {n : Nat} {P : Program} {f : FuncId} {args : Array Value} {w : World} {R : Ending → World → Prop} :
    CallsIn (FW r) n P f args w R ↔ Calls P f args w R := by
  have e : CallsIn (FW r) n P f args w R ↔ CallsIn Fence.wide n P f args w R := Iff.rfl
  exact e.trans callsIn_wide

abbrev Fr := List (Nat × Value)
def Fr.get : Fr → Nat → Option Value
  | [], _ => none
  | (k, v) :: r, t => bif Nat.beq k t then some v else Fr.get r t
def Fr.ev (F : Fr) : Operand → Option Value
  | .tmp t => F.get t
  | .const v => some v
  | .global g => some (.pointer (some ⟨g, 0, none⟩))
  | .func f => some (.func (.func f) #[] #[])
/-- The frame 'a' has 'n' slots, the deferred calls 'D', and holds what 'F' says. -/
structure At (n : Nat) (D : List Deferred) (F : Fr) (a : Act) : Prop where
  size : a.tmps.size = n
  defers : a.defers = D
  slot : ∀ t v, F.get t = some v → a.tmps[t]? = some v
theorem At.ev {n : Nat} {D : List Deferred} {F : Fr} {a : Act} (h : At n D F a) {x : Operand} {v : Value} (hx : F.ev x = some v) : a.eval x = v := by
  cases x with
  | tmp t => simp only [Fr.ev] at hx; have := h.slot t v hx; simp [Act.eval, Array.getD_eq_getD_getElem?, this]
  | const u => simpa [Fr.ev, Act.eval] using hx
  | global g => simpa [Fr.ev, Act.eval] using hx
  | func f => simpa [Fr.ev, Act.eval] using hx
theorem Fr.get_cons (F : Fr) (k t : Nat) (v : Value) : Fr.get ((k, v) :: F) t = if k = t then some v else F.get t := by
  simp only [Fr.get]
  by_cases h : k = t
  · subst h; simp
  · have : Nat.beq k t = false := Bool.eq_false_iff.2 (fun e => h (Nat.eq_of_beq_eq_true e))
    simp [this, h]
theorem At.put {n : Nat} {D : List Deferred} {F : Fr} {a : Act} (h : At n D F a) {d : Nat} (hd : d < n) (v : Value) : At n D ((d, v) :: F) (a.put (some d) v) := by
  refine ⟨by simp [Act.put, h.size], by simp [Act.put, h.defers], fun t u hu => ?_⟩
  rw [Fr.get_cons] at hu
  by_cases e : d = t
  · subst e
    rw [if_pos rfl] at hu
    have hs : d < a.tmps.size := by rw [h.size]; exact hd
    simp only [Act.put, Array.getElem?_setIfInBounds_self_of_lt hs]
    exact hu
  · rw [if_neg e] at hu
    simp only [Act.put]
    rw [Array.getElem?_setIfInBounds_ne e]
    exact h.slot t u hu
theorem At.put_none {n : Nat} {D : List Deferred} {F : Fr} {a : Act} (h : At n D F a) (v : Value) : At n D F (a.put none v) := h
/-- A put that is not recorded (in an unknown slot: forget the slot). -/
def Fr.forget (ts : List Nat) : Fr → Fr
  | [] => []
  | (k, v) :: r => bif ts.elem k then Fr.forget ts r else (k, v) :: Fr.forget ts r
theorem Fr.get_forget (ts : List Nat) (F : Fr) (t : Nat) : (F.forget ts).get t = if t ∈ ts then none else F.get t := by
  induction F with
  | nil => simp [Fr.forget, Fr.get]
  | cons p r ih =>
    obtain ⟨k, v⟩ := p
    simp only [Fr.forget]
    by_cases hk : k ∈ ts
    · have : ts.elem k = true := by simpa using hk
      rw [this, cond_true, ih, Fr.get_cons]
      by_cases e : k = t
      · subst e; simp [hk]
      · simp [e]
    · have : ts.elem k = false := by simpa using hk
      rw [this, cond_false, Fr.get_cons, Fr.get_cons, ih]
      by_cases e : k = t
      · subst e; simp [hk]
      · simp [e]
/-- 'F' says no more than 'F''. -/
def Fr.Sub (F F' : Fr) : Prop := ∀ t v, F.get t = some v → F'.get t = some v
theorem Fr.Sub.refl (F : Fr) : F.Sub F := fun _ _ h => h
theorem Fr.Sub.nil (F : Fr) : Fr.Sub [] F := fun _ _ h => by simp [Fr.get] at h
theorem Fr.Sub.cons {F F' : Fr} {t : Nat} {v : Value} (h : F'.get t = some v) (hs : Fr.Sub F F') : Fr.Sub ((t, v) :: F) F' := fun s u hu => by
  rw [Fr.get_cons] at hu
  by_cases e : t = s
  · subst e; rw [if_pos rfl] at hu; exact h.trans hu
  · rw [if_neg e] at hu; exact hs s u hu
theorem Fr.Sub.forget (ts : List Nat) (F : Fr) : Fr.Sub (F.forget ts) F := fun t v h => by
  rw [Fr.get_forget] at h
  by_cases e : t ∈ ts
  · simp [e] at h
  · simpa [e] using h
theorem At.sub {n : Nat} {D : List Deferred} {F F' : Fr} {a : Act} (h : At n D F' a) (hs : F.Sub F') : At n D F a := ⟨h.size, h.defers, fun t v k => h.slot t v (hs t v k)⟩

/-- Whether the number of drawn orders is watched, too (what the library's sort asks of a comparison). -/
class Flow where
  on : Prop
section flow
/-- Outside 'S' what lay in 'w0' lies in 'w' as it lay. -/
structure Old [Flow] (S : Nat → Prop) (w0 w : World) : Prop where
  os : w.os = w0.os
  tape : w.tape = w0.tape
  output : w.output = w0.output
  size : w0.heap.size ≤ w.heap.size
  block : ∀ k, k < w0.heap.size → ¬ S k → w.heap[k]? = w0.heap[k]?
  more : Flow.on → w0.drawn ≤ w.drawn
abbrev Nil : Nat → Prop := fun _ => False
theorem Old.refl [Flow] (S : Nat → Prop) (w : World) : Old S w w := ⟨rfl, rfl, rfl, Nat.le_refl _, fun _ _ _ => rfl, fun _ => Nat.le_refl _⟩
theorem Old.trans [Flow] {S : Nat → Prop} {a b c : World} (h : Old S a b) (k : Old S b c) : Old S a c :=
  ⟨k.os.trans h.os, k.tape.trans h.tape, k.output.trans h.output, Nat.le_trans h.size k.size,
   fun i hi hs => (k.block i (Nat.lt_of_lt_of_le hi h.size) hs).trans (h.block i hi hs), fun f => Nat.le_trans (h.more f) (k.more f)⟩
theorem Old.mono [Flow] {S S' : Nat → Prop} {a b : World} (h : Old S a b) (hs : ∀ k, k < a.heap.size → S k → S' k) : Old S' a b :=
  ⟨h.os, h.tape, h.output, h.size, fun i hi hn => h.block i hi (fun hk => hn (hs i hi hk)), h.more⟩
/-- A later step that may turn 'S'', all of it new or in 'S'. -/
theorem Old.step [Flow] {S S' : Nat → Prop} {a b c : World} (h : Old S a b) (k : Old S' b c) (hs : ∀ i, i < a.heap.size → S' i → S i) : Old S a c :=
  ⟨k.os.trans h.os, k.tape.trans h.tape, k.output.trans h.output, Nat.le_trans h.size k.size,
   fun i hi hn => (k.block i (Nat.lt_of_lt_of_le hi h.size) (fun x => hn (hs i hi x))).trans (h.block i hi hn), fun f => Nat.le_trans (h.more f) (k.more f)⟩
theorem Old.cell [Flow] {S : Nat → Prop} {w0 w : World} (h : Old S w0 w) {a : Addr} {v : Value} (hc : w0.cell? a = some v) (hs : ¬ S a.block) : w.cell? a = some v :=
  (World.cell?_of_block (h.block a.block (World.block_lt_of_cell? w0 a hc) hs)).trans hc
theorem Old.below [Flow] {w0 w : World} (h : Old Nil w0 w) : RowKit.Below w0.heap.size w0 w := ⟨h.os, h.tape, h.output, h.size, fun k hk => h.block k hk (fun x => x)⟩
end flow
instance (priority := low) flowOff : Flow := ⟨False⟩
theorem Old.of_below {w0 w : World} (h : RowKit.Below w0.heap.size w0 w) : Old Nil w0 w := ⟨h.os, h.tape, h.output, h.size, fun k hk _ => h.block k hk, fun f => False.elim f⟩
section flow2
theorem heap_alloc_lt (w : World) (o : Obj) (k : Nat) (h : k < w.heap.size) : (w.alloc o).heap[k]? = w.heap[k]? := RowKit.Below.heap_alloc w o k h
theorem heap_alloc_new (w : World) (o : Obj) : (w.alloc o).heap[w.heap.size]? = some o := World.alloc_heap_new w o
theorem Old.alloc [Flow] (S : Nat → Prop) (w : World) (o : Obj) : Old S w (w.alloc o) := ⟨rfl, rfl, rfl, by simp, fun k hk _ => heap_alloc_lt w o k hk, fun _ => Nat.le_refl _⟩
theorem Old.drew [Flow] (S : Nat → Prop) (w : World) : Old S w w.drew := ⟨rfl, rfl, rfl, Nat.le_refl _, fun _ _ _ => rfl, fun _ => Nat.le_succ _⟩

/-- A heaplet: the blocks that it speaks of, what it says; it says nothing of other blocks. -/
structure HL where
  supp : Nat → Prop
  holds : World → Prop
  loc : ∀ w w', (∀ b, supp b → w'.heap[b]? = w.heap[b]?) → holds w → holds w'
/-- Block 'b' is the object 'o'. -/
def HL.obj (b : Nat) (o : Obj) : HL := ⟨fun k => k = b, fun w => w.heap[b]? = some o, fun _ _ h hh => (h b rfl).trans hh⟩
/-- Nothing. -/
def HL.emp : HL := ⟨fun _ => False, fun _ => True, fun _ _ _ h => h⟩
def HL.star (h k : HL) : HL := ⟨fun b => h.supp b ∨ k.supp b, fun w => h.holds w ∧ k.holds w ∧ ∀ b, h.supp b → ¬ k.supp b,
  fun w w' hs hh => ⟨h.loc w w' (fun b hb => hs b (.inl hb)) hh.1, k.loc w w' (fun b hb => hs b (.inr hb)) hh.2.1, hh.2.2⟩⟩
/-- The memory 'w', which began as 'w0': outside S what lay lies; the heaplets hold, apart from each other, in S or in what is new. -/
structure Sym [Flow] (w0 : World) (S : Nat → Prop) (L : List HL) (w : World) : Prop where
  old : Old S w0 w
  holds : ∀ h ∈ L, h.holds w
  supp : ∀ h ∈ L, ∀ b, h.supp b → b < w.heap.size ∧ (w0.heap.size ≤ b ∨ S b)
  apart : L.Pairwise fun h k => ∀ b, h.supp b → ¬ k.supp b
theorem Sym.nil [Flow] (w : World) (S : Nat → Prop) : Sym w S [] w := ⟨Old.refl S w, fun h hh => (by cases hh), fun h hh => (by cases hh), List.Pairwise.nil⟩
theorem Sym.at [Flow] {w0 w : World} {S : Nat → Prop} {L : List HL} (hs : Sym w0 S L w) {i : Nat} {h : HL} (hi : L[i]? = some h) : h.holds w := hs.holds h (List.mem_of_getElem? hi)
theorem Sym.lt [Flow] {w0 w : World} {S : Nat → Prop} {L : List HL} (hs : Sym w0 S L w) {i : Nat} {b : Nat} {o : Obj} (hi : L[i]? = some (HL.obj b o)) : b < w.heap.size :=
  (hs.supp _ (List.mem_of_getElem? hi) b rfl).1
theorem Sym.base [Flow] {w0 w : World} {S : Nat → Prop} {L : List HL} (hs : Sym w0 S L w) {a : Addr} {v : Value} (hc : w0.cell? a = some v) (hn : ¬ S a.block) : w.cell? a = some v := hs.old.cell hc hn
theorem cell_of_obj {w : World} {b k : Nat} {cs : Array Value} {t : TypeId} {fz : Nat × Nat} {v : Value} (h : w.heap[b]? = some (.cells cs t fz)) (hk : cs[k]? = some v) : w.cell? ⟨b, k, none⟩ = some v := by
  simp [World.cell?, h, hk]
/-- Nothing that is said turns: new blocks beside. -/
theorem Sym.grow [Flow] {w0 w w' : World} {S : Nat → Prop} {L H : List HL} (hs : Sym w0 S L w) (ho : Old Nil w w')
    (hh : ∀ h ∈ H, h.holds w') (hsupp : ∀ h ∈ H, ∀ b, h.supp b → w.heap.size ≤ b ∧ b < w'.heap.size) (hap : H.Pairwise fun h k => ∀ b, h.supp b → ¬ k.supp b) : Sym w0 S (H ++ L) w' := by
  refine ⟨hs.old.step ho (fun _ _ x => x.elim), fun h hm => ?_, fun h hm b hb => ?_, ?_⟩
  · rcases List.mem_append.1 hm with hm | hm
    · exact hh h hm
    · exact h.loc w w' (fun b hb => ho.block b (hs.supp h hm b hb).1 (fun x => x)) (hs.holds h hm)
  · rcases List.mem_append.1 hm with hm | hm
    · have := hsupp h hm b hb
      have := hs.old.size
      exact ⟨by omega, .inl (by omega)⟩
    · have := hs.supp h hm b hb
      have := ho.size
      exact ⟨by omega, (hs.supp h hm b hb).2⟩
  · refine List.pairwise_append.2 ⟨hap, hs.apart, fun h hm k km b hb kb => ?_⟩
    have := hsupp h hm b hb
    have := hs.supp k km b kb
    omega
theorem Sym.grow0 [Flow] {w0 w w' : World} {S : Nat → Prop} {L : List HL} (hs : Sym w0 S L w) (ho : Old Nil w w') : Sym w0 S L w' := by
  have := hs.grow (H := []) ho (fun h hh => (by cases hh)) (fun h hh => (by cases hh)) List.Pairwise.nil
  simpa using this
theorem Sym.alloc [Flow] {w0 w : World} {S : Nat → Prop} {L : List HL} (hs : Sym w0 S L w) (o : Obj) : Sym w0 S (HL.obj w.heap.size o :: L) (w.alloc o) :=
  hs.grow (H := [HL.obj w.heap.size o]) (Old.alloc Nil w o) (fun h hm => by rcases List.mem_singleton.1 hm with rfl; exact heap_alloc_new w o)
    (fun h hm b hb => by rcases List.mem_singleton.1 hm with rfl; cases hb; simp) (List.pairwise_singleton _ _)
theorem Sym.drew [Flow] {w0 w : World} {S : Nat → Prop} {L : List HL} (hs : Sym w0 S L w) : Sym w0 S L w.drew := hs.grow0 (Old.drew Nil w)
/-- Heaplet i is turned into another one, over its blocks or over new ones; nothing else turns. -/
theorem Sym.turn [Flow] {w0 w w' : World} {S : Nat → Prop} {L : List HL} (hs : Sym w0 S L w) {i : Nat} {h h' : HL} (hi : L[i]? = some h) (hsup : ∀ b, h'.supp b → (h.supp b ∨ w.heap.size ≤ b) ∧ b < w'.heap.size)
    (ho : Old h.supp w w') (hh : h'.holds w') : Sym w0 S (L.set i h') w' := by
  have him : h ∈ L := List.mem_of_getElem? hi
  obtain ⟨hlt, hget⟩ := List.getElem?_eq_some_iff.1 hi
  have key : ∀ k ∈ L.set i h', k = h' ∨ (k ∈ L ∧ ∀ b, h.supp b → ¬ k.supp b) := by
    intro k hk
    obtain ⟨j, hj, hjk⟩ := List.getElem_of_mem hk
    rw [List.length_set] at hj
    by_cases e : i = j
    · subst e; left; rw [← hjk, List.getElem_set_self]
    · right
      rw [List.getElem_set_ne e] at hjk
      refine ⟨hjk ▸ List.getElem_mem hj, fun b hb kb => ?_⟩
      have hp := List.pairwise_iff_getElem.1 hs.apart
      rcases Nat.lt_or_gt_of_ne e with hlt' | hgt'
      · exact hp i j hlt hj hlt' b (hget.symm ▸ hb) (hjk ▸ kb)
      · exact hp j i hj hlt hgt' b (hjk ▸ kb) (hget.symm ▸ hb)
  refine ⟨hs.old.step ho (fun k hk hk' => ?_), fun k hk => ?_, fun k hk b hb => ?_, ?_⟩
  · rcases (hs.supp h him k hk').2 with hx | hx
    · omega
    · exact hx
  · rcases key k hk with rfl | ⟨hm, hd⟩
    · exact hh
    · exact k.loc w w' (fun b hb => ho.block b (hs.supp k hm b hb).1 (fun x => hd b x hb)) (hs.holds k hm)
  · have hz := ho.size
    have hz0 := hs.old.size
    rcases key k hk with rfl | ⟨hm, _⟩
    · obtain ⟨h1, h2⟩ := hsup b hb
      rcases h1 with h1 | h1
      · exact ⟨h2, (hs.supp h him b h1).2⟩
      · exact ⟨h2, .inl (by omega)⟩
    · have h1 := hs.supp k hm b hb; exact ⟨by omega, h1.2⟩
  · refine List.pairwise_iff_getElem.2 (fun p q hp hq hpq b hb kb => ?_)
    have hpw := List.pairwise_iff_getElem.1 hs.apart
    rw [List.length_set] at hp hq
    by_cases e : i = p
    · subst e
      rw [List.getElem_set_self] at hb
      rw [List.getElem_set_ne (by omega)] at kb
      rcases (hsup b hb).1 with h1 | h1
      · exact hpw i q hp hq hpq b (hget.symm ▸ h1) kb
      · have := (hs.supp _ (List.getElem_mem hq) b kb).1; omega
    · rw [List.getElem_set_ne e] at hb
      by_cases e' : i = q
      · subst e'
        rw [List.getElem_set_self] at kb
        rcases (hsup b kb).1 with h1 | h1
        · exact hpw p i hp hq hpq b hb (hget.symm ▸ h1)
        · have := (hs.supp _ (List.getElem_mem hp) b hb).1; omega
      · rw [List.getElem_set_ne e'] at kb
        exact hpw p q hp hq hpq b hb kb
theorem heap_setCell {w : World} {b k : Nat} {cs : Array Value} {t : TypeId} {fz : Nat × Nat} (h : w.heap[b]? = some (.cells cs t fz)) (v : Value) :
    (w.setCell ⟨b, k, none⟩ v).heap[b]? = some (.cells (cs.setIfInBounds k v) t fz) := by
  simp [World.setCell, Array.getElem?_modify, h]
theorem Old.setCell [Flow] {S : Nat → Prop} (w : World) (a : Addr) (v : Value) (hS : S a.block) : Old S w (w.setCell a v) :=
  ⟨rfl, rfl, rfl, by simp, fun k _ hk => RowKit.Below.heap_setCell w a v k (fun e => hk (by subst e; exact hS)), fun _ => Nat.le_refl _⟩
/-- What is said is forgotten, or said in another order. -/
def HSub (L L' : List HL) : Prop := ∃ M, L.Perm M ∧ M.Sublist L'
theorem HSub.refl (L : List HL) : HSub L L := ⟨L, List.Perm.refl _, List.Sublist.refl _⟩
theorem HSub.nil (L : List HL) : HSub [] L := ⟨[], List.Perm.refl _, List.nil_sublist _⟩
theorem perm_eraseIdx {α : Type} : ∀ {L : List α} {i : Nat} {x : α}, L[i]? = some x → L.Perm (x :: L.eraseIdx i)
  | [], i, x, h => by simp at h
  | y :: r, 0, x, h => by simp at h; subst h; simp
  | y :: r, i + 1, x, h => by
    have h' : r[i]? = some x := by simpa using h
    simp only [List.eraseIdx_cons_succ]
    exact (List.Perm.cons y (perm_eraseIdx h')).trans (List.Perm.swap x y _)
theorem HSub.pick [Flow] {L L' : List HL} {h : HL} (i : Nat) (hi : L'[i]? = some h) (hk : HSub L (L'.eraseIdx i)) : HSub (h :: L) L' := by
  obtain ⟨M, hp, hs⟩ := hk
  obtain ⟨M', hp', hs'⟩ := List.exists_perm_sublist (List.Sublist.cons_cons h hs) (perm_eraseIdx hi).symm
  exact ⟨M', (List.Perm.cons h hp).trans hp'.symm, hs'⟩
theorem apart_symm {h k : HL} (hk : ∀ b, h.supp b → ¬ k.supp b) : ∀ b, k.supp b → ¬ h.supp b := fun b kb hb => hk b hb kb
theorem Sym.sub [Flow] {w0 w : World} {S : Nat → Prop} {L L' : List HL} (hs : Sym w0 S L' w) (h : HSub L L') : Sym w0 S L w := by
  obtain ⟨M, hp, hl⟩ := h
  refine ⟨hs.old, fun h hm => hs.holds h (hl.subset (hp.mem_iff.1 hm)), fun h hm => hs.supp h (hl.subset (hp.mem_iff.1 hm)), ?_⟩
  exact (hp.pairwise_iff (fun {x y} h => apart_symm h)).2 (hs.apart.sublist hl)
/-- Two heaplets become one. -/
theorem Sym.join [Flow] {w0 w : World} {S : Nat → Prop} {L : List HL} {h k : HL} (hs : Sym w0 S (h :: k :: L) w) : Sym w0 S (HL.star h k :: L) w := by
  have h1 := List.pairwise_cons.1 hs.apart
  have h2 := List.pairwise_cons.1 h1.2
  refine ⟨hs.old, fun x hx => ?_, fun x hx b hb => ?_, List.pairwise_cons.2 ⟨fun x hx b hb xb => ?_, h2.2⟩⟩
  · rcases List.mem_cons.1 hx with rfl | hx
    · exact ⟨hs.holds h (by simp), hs.holds k (by simp), h1.1 k (by simp)⟩
    · exact hs.holds x (by simp [hx])
  · rcases List.mem_cons.1 hx with rfl | hx
    · rcases hb with hb | hb
      · exact hs.supp h (by simp) b hb
      · exact hs.supp k (by simp) b hb
    · exact hs.supp x (by simp [hx]) b hb
  · rcases hb with hb | hb
    · exact h1.1 x (by simp [hx]) b hb xb
    · exact h2.1 x hx b hb xb
/-- A heaplet is read as another one. -/
theorem Sym.weaken [Flow] {w0 w : World} {S : Nat → Prop} {L : List HL} {h k : HL} (hs : Sym w0 S (h :: L) w) (hh : h.holds w → k.holds w) (hsup : ∀ b, k.supp b → h.supp b) : Sym w0 S (k :: L) w := by
  have h1 := List.pairwise_cons.1 hs.apart
  refine ⟨hs.old, fun x hx => ?_, fun x hx b hb => ?_, List.pairwise_cons.2 ⟨fun x hx b hb => h1.1 x hx b (hsup b hb), h1.2⟩⟩
  · rcases List.mem_cons.1 hx with rfl | hx
    · exact hh (hs.holds h (by simp))
    · exact hs.holds x (by simp [hx])
  · rcases List.mem_cons.1 hx with rfl | hx
    · exact hs.supp h (by simp) b (hsup b hb)
    · exact hs.supp x (by simp [hx]) b hb
end flow2
end Go.V
/- The proof layer, part b: judgements over frames and heaplets; code; regions in the order of the text. -/
namespace Go.V
open Go

/-- What stays the same while one activation runs. -/
structure Cx where
  P : Program
  r : Option Nat
  n : Nat
  D : List Deferred
  w0 : World
  S : Nat → Prop
structure Ok [Flow] (C : Cx) (F : Fr) (L : List HL) (a : Act) (w : World) : Prop where
  fr : At C.n C.D F a
  sym : Sym C.w0 C.S L w

def RunC [Flow] (C : Cx) (c : Code) (Q : Exit → Act → World → Prop) (F : Fr) (L : List HL) : Prop := ∀ a w, Ok C F L a w → c.wpIn (FW C.r) 0 C.P Q a w
def RunL [Flow] (C : Cx) (ops : Array Oper) (Q : Exit → Act → World → Prop) (l : List Oper) (F : Fr) (L : List HL) : Prop := ∀ a w, Ok C F L a w → wpListIn (FW C.r) 0 C.P ops Q l a w
def Ends [Flow] (C : Cx) (e : Exit) (Q : Exit → Act → World → Prop) (F : Fr) (L : List HL) : Prop := ∀ a w, Ok C F L a w → Q e a w

section weaken
variable {C : Cx} {Q : Exit → Act → World → Prop} {F F' : Fr} {L L' : List HL}
theorem Ok.sub [Flow] {a : Act} {w : World} (h : Ok C F' L' a w) (hF : F.Sub F') (hL : HSub L L') : Ok C F L a w := ⟨h.fr.sub hF, h.sym.sub hL⟩
end weaken

section code
variable {C : Cx} {Q : Exit → Act → World → Prop} {F : Fr} {L : List HL}
theorem RunC.seq [Flow] {x y : Code} (h : RunC C x (Exit.then (y.wpIn (FW C.r) 0 C.P Q) Q) F L) : RunC C (.seq x y) Q F L := fun a w ok => wpIn_seq (h a w ok)
theorem RunC.block [Flow] {id : Nat} {c : Code} (h : RunC C c (Exit.inBlock id Q) F L) : RunC C (.block id c) Q F L := fun a w ok => wpIn_block (h a w ok)
theorem RunC.skip [Flow] (h : Ends C .normal Q F L) : RunC C .skip Q F L := fun a w ok => wpIn_skip (h a w ok)
theorem RunC.exit [Flow] {id : Nat} (h : Ends C (.exit id) Q F L) : RunC C (.exit id) Q F L := fun a w ok => wpIn_exit (h a w ok)
theorem RunC.ret [Flow] (h : Ends C .ret Q F L) : RunC C .ret Q F L := fun a w ok => wpIn_ret (h a w ok)
/-- A slot that holds a Bool is decided. -/
theorem Ok.decide [Flow] {t : Nat} {b c : Bool} {a : Act} {w : World} (ok : Ok C F L a w) (hb : F.get t = some (.bool b)) (e : b = c) : Ok C ((t, .bool c) :: F) L a w :=
  ⟨⟨ok.fr.size, ok.fr.defers, fun s v hv => by
    rw [Fr.get_cons] at hv
    by_cases h : t = s
    · subst h; rw [if_pos rfl] at hv; rw [← hv, ← e]; exact ok.fr.slot t _ hb
    · rw [if_neg h] at hv; exact ok.fr.slot s v hv⟩, ok.sym⟩
/-- What is known of a slot anyhow, once more. -/
theorem Ok.again [Flow] {t : Nat} {v u : Value} {a : Act} {w : World} (ok : Ok C F L a w) (hb : F.get t = some v) (e : v = u) : Ok C ((t, u) :: F) L a w :=
  ⟨⟨ok.fr.size, ok.fr.defers, fun s x hv => by
    rw [Fr.get_cons] at hv
    by_cases h : t = s
    · subst h; rw [if_pos rfl] at hv; rw [← hv, ← e]; exact ok.fr.slot t _ hb
    · rw [if_neg h] at hv; exact ok.fr.slot s x hv⟩, ok.sym⟩
theorem RunC.cond [Flow] {t : Nat} {x y : Code} {b : Bool} (hb : F.get t = some (.bool b)) (h1 : b = true → RunC C x Q F L) (h2 : b = false → RunC C y Q F L) : RunC C (.cond (.tmp t) x y) Q F L :=
  fun a w ok => wpIn_cond_split (t := b) (ok.fr.ev (x := .tmp t) hb) (fun e => h1 e a w ok) (fun e => h2 e a w ok)
theorem RunC.cond_true [Flow] {t : Nat} {x y : Code} (hb : F.get t = some (.bool true)) (h1 : RunC C x Q F L) : RunC C (.cond (.tmp t) x y) Q F L :=
  fun a w ok => wpIn_cond_true (ok.fr.ev (x := .tmp t) hb) (h1 a w ok)
theorem RunC.cond_false [Flow] {t : Nat} {x y : Code} (hb : F.get t = some (.bool false)) (h1 : RunC C y Q F L) : RunC C (.cond (.tmp t) x y) Q F L :=
  fun a w ok => wpIn_cond_false (ok.fr.ev (x := .tmp t) hb) (h1 a w ok)
theorem RunC.region [Flow] {id : Nat} {l : List Oper} (h : RunL C l.toArray Q l F L) : RunC C (.region id l.toArray false) Q F L := fun a w ok => wpIn_region_lit (h a w ok)
theorem Ends.then [Flow] {y : Code} (h : RunC C y Q F L) : Ends C .normal (Exit.then (y.wpIn (FW C.r) 0 C.P Q) Q) F L := h
theorem Ends.then_ret [Flow] {K : Act → World → Prop} (h : Ends C .ret Q F L) : Ends C .ret (Exit.then K Q) F L := h
theorem Ends.then_exit [Flow] {K : Act → World → Prop} {id : Nat} (h : Ends C (.exit id) Q F L) : Ends C (.exit id) (Exit.then K Q) F L := h
theorem Ends.block [Flow] {id : Nat} (h : Ends C .normal Q F L) : Ends C .normal (Exit.inBlock id Q) F L := h
theorem Ends.block_ret [Flow] {id : Nat} (h : Ends C .ret Q F L) : Ends C .ret (Exit.inBlock id Q) F L := h
theorem Ends.block_exit [Flow] {id : Nat} (h : Ends C .normal Q F L) : Ends C (.exit id) (Exit.inBlock id Q) F L := fun a w ok => by simpa [Exit.inBlock] using h a w ok
theorem Ends.block_out [Flow] {id id' : Nat} (hne : Nat.beq id id' = false) (h : Ends C (.exit id) Q F L) : Ends C (.exit id) (Exit.inBlock id' Q) F L := fun a w ok => by
  have : id ≠ id' := fun e => by subst e; simp at hne
  simpa [Exit.inBlock, this] using h a w ok
/-- The rounds of a loop: a family of states, a measure. -/
def Again [Flow] (C : Cx) {γ : Type} (I : γ → Prop) (μ : γ → Nat) (Fi : γ → Fr) (Li : γ → List HL) (m : Nat) (a : Act) (w : World) : Prop := ∃ g, I g ∧ μ g < m ∧ Ok C (Fi g) (Li g) a w
theorem wpIn_loop_g {Fc : Fence} {n : Nat} {P : Program} {Q : Exit → Act → World → Prop} {a : Act} {w : World} {c : Code} {γ : Type} (I : γ → Act → World → Prop) (μ : γ → Nat) (g0 : γ) (h₀ : I g0 a w)
    (round : ∀ g a w, I g a w → c.wpIn Fc n P (Exit.then (fun a' w' => ∃ g', μ g' < μ g ∧ I g' a' w') Q) a w) : (Code.loop c).wpIn Fc n P Q a w := by
  intro b k cs hro hb hr
  have key : ∀ j g a w, μ g = j → I g a w →
      ∃ e a' w', Q e a' w' ∧ ArrivesIn (Machine.fenced P Fc) P (lone (b.atR a (.code c :: .inLoop c :: k)) cs w) b k cs e a' w' := by
    intro j
    induction j using Nat.strongRecOn with
    | _ j ih =>
      intro g a w hn hI
      obtain ⟨e, a₁, w₁, hq, harr⟩ := round g a w hI b (.inLoop c :: k) cs hro hb hr
      cases e with
      | normal =>
        obtain ⟨g', hlt, hI₁⟩ := hq
        obtain ⟨e₂, a₂, w₂, hq₂, harr₂⟩ := ih (μ g') (hn ▸ hlt) g' a₁ w₁ rfl hI₁
        exact ⟨e₂, a₂, w₂, hq₂, .of_steps (StepsIn.trans harr (.one (fenced_calm hb hr rfl) stepR_inLoop)) harr₂⟩
      | exit id => exact ⟨_, a₁, w₁, hq, .pass (x := .inLoop c) rfl (fun _ _ => .inl (by simp)) harr⟩
      | goto l => exact ⟨_, a₁, w₁, hq, .pass (x := .inLoop c) rfl (fun _ _ => .inl (by simp)) harr⟩
      | ret => exact ⟨_, a₁, w₁, hq, .pass (x := .inLoop c) rfl (fun _ _ => .inl (by simp)) harr⟩
      | panic ch => exact ⟨_, a₁, w₁, hq, .pass (x := .inLoop c) rfl (fun _ _ => .inl (by simp)) harr⟩
      | outgrown => exact ⟨_, a₁, w₁, hq, .pass (x := .inLoop c) rfl (fun _ _ => .inl (by simp)) harr⟩
  obtain ⟨e, a', w', hq, harr⟩ := key _ g0 a w rfl h₀
  exact ⟨e, a', w', hq, .of_steps (.one (fenced_calm hb hr rfl) stepR_loop) harr⟩
theorem RunC.loop [Flow] {c : Code} {γ : Type} (I : γ → Prop) (μ : γ → Nat) (Fi : γ → Fr) (Li : γ → List HL) (g0 : γ) (h0 : I g0) (hF : (Fi g0).Sub F) (hL : HSub (Li g0) L)
    (round : ∀ g, I g → RunC C c (Exit.then (Again C I μ Fi Li (μ g)) Q) (Fi g) (Li g)) : RunC C (.loop c) Q F L := fun a w ok => by
  refine wpIn_loop_g (fun g a w => I g ∧ Ok C (Fi g) (Li g) a w) μ g0 ⟨h0, ok.sub hF hL⟩ ?_
  intro g a1 w1 ⟨hg, okg⟩
  refine wpIn_mono (round g hg a1 w1 okg) ?_
  intro e a2 w2 hq
  cases e <;> first | exact hq | (obtain ⟨g', hg', hm, ok'⟩ := hq; exact ⟨g', hm, hg', ok'⟩)
theorem Ends.again [Flow] {γ : Type} {I : γ → Prop} {μ : γ → Nat} {Fi : γ → Fr} {Li : γ → List HL} {m : Nat} (g : γ) (hI : I g) (hm : μ g < m) (hF : (Fi g).Sub F) (hL : HSub (Li g) L) :
    Ends C .normal (Exit.then (Again C I μ Fi Li m) Q) F L := fun _ _ ok => ⟨g, hI, hm, ok.sub hF hL⟩
end code

/-- Does the guard let the operation in? none: it is not known. -/
def wants (ops : Array Oper) (F : Fr) (o : Oper) : Option Bool :=
  match o.guard with
  | none => some true
  | some (j, want) =>
    match (ops[j]?).bind (·.dst) with
    | none => some false
    | some t =>
      match F.get t with
      | some (.bool b) => some (b == want)
      | some (.tuple _) => some false
      | _ => none
theorem wants_ok [Flow] {C : Cx} {F : Fr} {L : List HL} {a : Act} {w : World} {ops : Array Oper} {o : Oper} {x : Bool} (ok : Ok C F L a w) (h : wants ops F o = some x) : Region.wanted o (yielded ops a.tmps) = x := by
  unfold wants at h
  unfold Region.wanted
  cases hg : o.guard with
  | none => rw [hg] at h; simpa using h
  | some p =>
    obtain ⟨j, want⟩ := p
    rw [hg] at h
    simp only at h ⊢
    unfold yielded
    cases hd : (ops[j]?).bind (·.dst) with
    | none => rw [hd] at h; simpa using h
    | some t =>
      rw [hd] at h
      simp only [Option.bind_some] at h ⊢
      cases hv : F.get t with
      | none => rw [hv] at h; cases h
      | some v =>
        rw [hv] at h
        rw [ok.fr.slot t v hv]
        cases v <;> simp at h ⊢ <;> first | exact h | simp [← h]
def Still [Flow] (C : Cx) (o : Oper) (F : Fr) (L : List HL) (v : Value) : Prop :=
  (∀ c, o.op ≠ .defer c) ∧ ∀ a w, Ok C F L a w → (execOp a.eval o).run C.P w = .ok (.value v) w
def Grows [Flow] (C : Cx) (o : Oper) (F : Fr) (L : List HL) {γ : Type} (φ : γ → Prop) (V : γ → Value) (H : γ → List HL) : Prop :=
  ∀ a w, Ok C F L a w → ∀ (next : Act → World → Prop) (Q : Exit → Act → World → Prop), (∀ g w', φ g → Old Nil w w' → Sym C.w0 C.S (H g ++ L) w' → next (a.put o.dst (V g)) w') → o.wpIn (FW C.r) 0 C.P a w next Q
def Does [Flow] (C : Cx) (o : Oper) (F : Fr) (L : List HL) {γ : Type} (φ : γ → Prop) (V : γ → Value) (L' : γ → List HL) : Prop :=
  ∀ a w, Ok C F L a w → ∀ (next : Act → World → Prop) (Q : Exit → Act → World → Prop), (∀ g w', φ g → Sym C.w0 C.S (L' g) w' → next (a.put o.dst (V g)) w') → o.wpIn (FW C.r) 0 C.P a w next Q
section ops
variable {C : Cx} {Q : Exit → Act → World → Prop} {F : Fr} {L : List HL} {ops : Array Oper} {o : Oper} {rest : List Oper}
theorem still_wpIn [Flow] {v : Value} (hs : Still C o F L v) {a : Act} {w : World} (ok : Ok C F L a w) {next : Act → World → Prop} (h : next (a.put o.dst v) w) : o.wpIn (FW C.r) 0 C.P a w next Q := by
  refine ⟨fun _ _ => trivial, ?_⟩
  rw [Oper.semAt_eq _ _ _ hs.1, hs.2 a w ok]
  exact h
theorem RunL.nil [Flow] (h : Ends C .normal Q F L) : RunL C ops Q [] F L := fun a w ok => h a w ok
theorem RunL.still [Flow] {d : Nat} {v : Value} (hw : wants ops F o = some true) (hd : o.dst = some d) (hn : Nat.blt d C.n = true) (hs : Still C o F L v) (h : RunL C ops Q rest ((d, v) :: F) L) : RunL C ops Q (o :: rest) F L := fun a w ok => by
  unfold wpListIn
  rw [wants_ok ok hw, if_pos rfl]
  refine still_wpIn hs ok (h _ w ?_)
  rw [hd]
  exact ⟨ok.fr.put (by simpa using hn) v, ok.sym⟩
theorem RunL.off [Flow] {d : Nat} (hw : wants ops F o = some false) (hd : o.dst = some d) (hn : Nat.blt d C.n = true) (h : RunL C ops Q rest ((d, undef) :: F) L) : RunL C ops Q (o :: rest) F L := fun a w ok => by
  unfold wpListIn
  rw [wants_ok ok hw, if_neg (by simp)]
  refine ⟨fun _ _ => trivial, h _ w ?_⟩
  rw [hd]
  exact ⟨ok.fr.put (by simpa using hn) _, ok.sym⟩
theorem RunL.grows [Flow] {d : Nat} {γ : Type} {φ : γ → Prop} {V : γ → Value} {H : γ → List HL} (hw : wants ops F o = some true) (hd : o.dst = some d) (hn : Nat.blt d C.n = true) (hg : Grows C o F L φ V H)
    (h : ∀ g, φ g → RunL C ops Q rest ((d, V g) :: F) (H g ++ L)) : RunL C ops Q (o :: rest) F L := fun a w ok => by
  unfold wpListIn
  rw [wants_ok ok hw, if_pos rfl]
  refine hg a w ok _ _ (fun g w' hφ _ hs => h g hφ _ w' ?_)
  rw [hd]
  exact ⟨ok.fr.put (by simpa using hn) _, hs⟩
theorem RunL.does [Flow] {d : Nat} {γ : Type} {φ : γ → Prop} {V : γ → Value} {L' : γ → List HL} (hw : wants ops F o = some true) (hd : o.dst = some d) (hn : Nat.blt d C.n = true) (hg : Does C o F L φ V L')
    (h : ∀ g, φ g → RunL C ops Q rest ((d, V g) :: F) (L' g)) : RunL C ops Q (o :: rest) F L := fun a w ok => by
  unfold wpListIn
  rw [wants_ok ok hw, if_pos rfl]
  refine hg a w ok _ _ (fun g w' hφ hs => h g hφ _ w' ?_)
  rw [hd]
  exact ⟨ok.fr.put (by simpa using hn) _, hs⟩
theorem RunL.does0 [Flow] {γ : Type} {φ : γ → Prop} {V : γ → Value} {L' : γ → List HL} (hw : wants ops F o = some true) (hd : o.dst = none) (hg : Does C o F L φ V L')
    (h : ∀ g, φ g → RunL C ops Q rest F (L' g)) : RunL C ops Q (o :: rest) F L := fun a w ok => by
  unfold wpListIn
  rw [wants_ok ok hw, if_pos rfl]
  refine hg a w ok _ _ (fun g w' hφ hs => h g hφ _ w' ?_)
  rw [hd]
  exact ⟨ok.fr.put_none _, hs⟩
/-- A slot that holds a Bool is decided. -/
theorem RunL.split [Flow] {t : Nat} {b : Bool} {l : List Oper} (hb : F.get t = some (.bool b)) (h1 : b = true → RunL C ops Q l ((t, .bool true) :: F) L) (h2 : b = false → RunL C ops Q l ((t, .bool false) :: F) L) : RunL C ops Q l F L := fun a w ok => by
  cases hbb : b
  · exact h2 hbb a w (ok.decide hb hbb)
  · exact h1 hbb a w (ok.decide hb hbb)
theorem RunL.again [Flow] {t : Nat} {v u : Value} {l : List Oper} (hv : F.get t = some v) (e : v = u) (h : RunL C ops Q l ((t, u) :: F) L) : RunL C ops Q l F L := fun a w ok => h a w (ok.again hv e)
end ops

/-- The call returns: there is a 'g' of which 'φ' holds; the result is 'V g'; outside S nothing has turned; the heaplets 'H g' lie in what is new, or in S. -/
def Ret [Flow] (w : World) (S : Nat → Prop) {γ : Type} (φ : γ → Prop) (V : γ → Value) (H : γ → List HL) : Ending → World → Prop := fun e w' => ∃ g, φ g ∧ e = .returned (V g) ∧ Sym w S (H g) w'
def Gives [Flow] (P : Program) (f : FuncId) (args : Array Value) (w : World) (S : Nat → Prop) {γ : Type} (φ : γ → Prop) (V : γ → Value) (H : γ → List HL) : Prop := Calls P f args w (Ret w S φ V H)
def entry : Nat → List Value → Fr
  | _, [] => []
  | i, v :: r => (i, v) :: entry (i + 1) r
theorem entry_get : ∀ (vs : List Value) (i t : Nat) (v : Value), (entry i vs).get t = some v → ∃ k, t = i + k ∧ vs[k]? = some v
  | [], _, _, _, h => by simp [entry, Fr.get] at h
  | u :: r, i, t, v, h => by
    simp only [entry, Fr.get_cons] at h
    by_cases e : i = t
    · rw [if_pos e] at h; exact ⟨0, by omega, by simpa using h⟩
    · rw [if_neg e] at h
      obtain ⟨k, hk, hv⟩ := entry_get r (i + 1) t v h
      exact ⟨k + 1, by omega, by simpa using hv⟩
theorem fn_of_run [Flow] {P : Program} {f : FuncId} {fn : Func} {c : Code} {args : List Value} {n : Nat} {w : World} {S : Nat → Prop} {L : List HL} {R : Ending → World → Prop}
    (hf : P.funcs[f]? = some fn) (hb : fn.body = some c) (hn : fn.ntmps = n) (hl : args.length ≤ n) (hs : Sym w S L w)
    (h : RunC ⟨P, none, n, [], w, S⟩ c (bodyPost P fn R) (entry 0 args) L) : Calls P f args.toArray w R := by
  refine (callsFW (r := none) (n := 0)).1 (callsIn_of_wp hf hb trivial ?_)
  refine h _ w ⟨⟨?_, rfl, fun t v ht => ?_⟩, hs⟩
  · simp [hn]; omega
  · obtain ⟨k, hk, hv⟩ := entry_get args 0 t v ht
    have : t = k := by omega
    subst this
    have hlt : t < args.length := (List.getElem?_eq_some_iff.1 hv).1
    simp [Array.getElem?_append, hlt]
    simpa [List.getElem?_eq_getElem hlt] using hv
/-- What the result variables hold. -/
inductive Holds [Flow] (C : Cx) (F : Fr) (L : List HL) : ResultVar → Value → Prop
  | tmp {t : Nat} {v : Value} (h : F.get t = some v) : Holds C F L (.tmp t) v
  | cell {t : Nat} {a : Addr} {ty : TypeId} {v : Value} (h : F.get t = some (.pointer (some a))) (hv : ∀ w, Sym C.w0 C.S L w → (loadVar ty a).run C.P w = .ok v w) : Holds C F L (.cell t ty) v
def resv (tmps : Array Value) : ResultVar → Sem Value
  | .tmp t => pure (tmps.getD t undef)
  | .cell a t => do loadVar t (← asAddr (tmps.getD a undef))
theorem results_eq (fn : Func) (tmps : Array Value) : results fn tmps = (do let vs ← fn.results.mapM (resv tmps); pure (if h : vs.size = 1 then vs[0] else .tuple vs)) := rfl
theorem Holds.run [Flow] {C : Cx} {F : Fr} {L : List HL} {x : ResultVar} {v : Value} (h : Holds C F L x v) {a : Act} {w : World} (ok : Ok C F L a w) : (resv a.tmps x).run C.P w = .ok v w := by
  cases h with
  | tmp h => have := ok.fr.ev (x := .tmp _) h; simp only [Act.eval] at this; simp only [resv, this]; rfl
  | cell h hv => have := ok.fr.ev (x := .tmp _) h; simp only [Act.eval] at this; simp only [resv, this]; simp [asAddr, hv w ok.sym]
theorem results1 [Flow] {C : Cx} {F : Fr} {L : List HL} {fn : Func} {x : ResultVar} {v : Value} (hr : fn.results = #[x]) (h : Holds C F L x v) {a : Act} {w : World} (ok : Ok C F L a w) : (results fn a.tmps).run C.P w = .ok v w := by
  have := h.run ok
  simp [results_eq, hr, this]
theorem results2 [Flow] {C : Cx} {F : Fr} {L : List HL} {fn : Func} {x y : ResultVar} {v u : Value} (hr : fn.results = #[x, y]) (h : Holds C F L x v) (k : Holds C F L y u) {a : Act} {w : World} (ok : Ok C F L a w) :
    (results fn a.tmps).run C.P w = .ok (.tuple #[v, u]) w := by
  have h1 := h.run ok
  have h2 := k.run ok
  simp [results_eq, hr, h1, h2]
theorem results3 [Flow] {C : Cx} {F : Fr} {L : List HL} {fn : Func} {x y z : ResultVar} {v u t : Value} (hr : fn.results = #[x, y, z]) (h : Holds C F L x v) (k : Holds C F L y u) (l : Holds C F L z t) {a : Act} {w : World} (ok : Ok C F L a w) :
    (results fn a.tmps).run C.P w = .ok (.tuple #[v, u, t]) w := by
  have h1 := h.run ok
  have h2 := k.run ok
  have h3 := l.run ok
  simp [results_eq, hr, h1, h2, h3]
theorem results0 [Flow] {C : Cx} {F : Fr} {L : List HL} {fn : Func} (hr : fn.results = #[]) {a : Act} {w : World} (_ : Ok C F L a w) : (results fn a.tmps).run C.P w = .ok (.tuple #[]) w := by
  simp [results, hr]
/-- Leaving: by 'ret' or off the end. -/
theorem Ends.leave [Flow] {P : Program} {n : Nat} {w0 : World} {S : Nat → Prop} {fn : Func} {R : Ending → World → Prop} {F : Fr} {L : List HL} {v : Value} {e : Exit} (he : e = .ret ∨ e = .normal)
    (hr : ∀ a w, Ok ⟨P, none, n, [], w0, S⟩ F L a w → (results fn a.tmps).run P w = .ok v w) (hR : ∀ w', Sym w0 S L w' → R (.returned v) w') : Ends ⟨P, none, n, [], w0, S⟩ e (bodyPost P fn R) F L := fun a w ok => by
  rcases he with rfl | rfl <;> exact ⟨ok.fr.defers, v, hr a w ok, hR w ok.sym⟩
theorem Ret.intro [Flow] {w0 : World} {S : Nat → Prop} {γ : Type} {φ : γ → Prop} {V : γ → Value} {H : γ → List HL} {v : Value} {L : List HL} {w' : World} (g : γ) (hφ : φ g) (hv : v = V g) (hH : HSub (H g) L) (hs : Sym w0 S L w') : Ret w0 S φ V H (.returned v) w' :=
  ⟨g, hφ, by rw [hv], hs.sub hH⟩
end Go.V
/- The proof layer, part c: operations that only look, one rule each. -/
namespace Go.V
open Go
section still
variable {C : Cx} {F : Fr} {L : List HL} {o : Oper}
theorem Still.move [Flow] {x : Operand} {v : Value} (ho : o.op = .move x) (hx : F.ev x = some v) : Still C o F L v :=
  ⟨fun c h => (by rw [ho] at h; cases h), fun a w ok => by simp only [execOp, ho, ok.fr.ev hx]; rfl⟩
theorem Still.assign [Flow] {x : Operand} {v : Value} (ho : o.op = .assign x) (hx : F.ev x = some v) : Still C o F L v :=
  ⟨fun c h => (by rw [ho] at h; cases h), fun a w ok => by simp only [execOp, ho, ok.fr.ev hx]; rfl⟩
theorem Still.pickT [Flow] {c x y : Operand} {v : Value} (ho : o.op = .pick c x y) (hc : F.ev c = some (.bool true)) (hx : F.ev x = some v) : Still C o F L v :=
  ⟨fun c h => (by rw [ho] at h; cases h), fun a w ok => by simp only [execOp, ho, ok.fr.ev hc, ok.fr.ev hx]; rfl⟩
theorem Still.pickF [Flow] {c x y : Operand} {v : Value} (ho : o.op = .pick c x y) (hc : F.ev c = some (.bool false)) (hx : F.ev y = some v) : Still C o F L v :=
  ⟨fun c h => (by rw [ho] at h; cases h), fun a w ok => by simp only [execOp, ho, ok.fr.ev hc, ok.fr.ev hx]; rfl⟩
/-- The cells from A on hold vs. -/
def Cells (w : World) (A : Addr) (vs : List Value) : Prop := ∀ j v, vs[j]? = some v → w.cell? (A.add j) = some v
theorem Cells.nil (w : World) (A : Addr) : Cells w A [] := fun j v h => by simp at h
theorem add_add (A : Addr) (m n : Nat) : (A.add m).add n = A.add (m + n) := by
  unfold Addr.add
  by_cases h : m = 0
  · subst h; simp
  · by_cases k : n = 0
    · subst k; simp [h]
    · simp [h, k, Nat.add_assoc]
@[simp] theorem add_block (A : Addr) (m : Nat) : (A.add m).block = A.block := by unfold Addr.add; split <;> rfl
theorem add_new (b k n : Nat) : (⟨b, k, none⟩ : Addr).add n = ⟨b, k + n, none⟩ := by unfold Addr.add; split <;> simp_all
theorem load_cells {P : Program} {w : World} {t : TypeId} {A : Addr} {vs : List Value} {n : Nat} (ha : ∀ w, (isAgg t).run P w = .ok true w) (hz : ∀ w, (sizeOf t).run P w = .ok n w) (hn : vs.length = n) (hc : Cells w A vs) :
    (loadVar t A).run P w = .ok (.agg vs.toArray) w := by
  simp only [loadVar, Sem.run_bind, ha, Result.andThen_ok, if_true, hz, ← hn, run_loadCells_list w A vs hc]
  rfl
theorem load_one {P : Program} {w : World} {t : TypeId} {A : Addr} {v : Value} (ha : ∀ w, (isAgg t).run P w = .ok false w) (hc : w.cell? A = some v) : (loadVar t A).run P w = .ok v w := by
  simp [loadVar, ha, hc]
theorem Still.load [Flow] {t : TypeId} {x : Operand} {A : Addr} {v : Value} (ho : o.op = .load t x) (hx : F.ev x = some (.pointer (some A))) (ha : ∀ w, (isAgg t).run C.P w = .ok false w)
    (hc : ∀ w, Sym C.w0 C.S L w → w.cell? A = some v) : Still C o F L v :=
  ⟨fun c h => (by rw [ho] at h; cases h), fun a w ok => by simp only [execOp, ho, ok.fr.ev hx]; simp [Instr.loadAt, Instr.sureAddr, load_one ha (hc w ok.sym)]⟩
theorem Still.loads [Flow] {t : TypeId} {x : Operand} {A : Addr} {vs : List Value} {n : Nat} (ho : o.op = .load t x) (hx : F.ev x = some (.pointer (some A))) (ha : ∀ w, (isAgg t).run C.P w = .ok true w) (hz : ∀ w, (sizeOf t).run C.P w = .ok n w)
    (hn : vs.length = n) (hc : ∀ w, Sym C.w0 C.S L w → Cells w A vs) : Still C o F L (.agg vs.toArray) :=
  ⟨fun c h => (by rw [ho] at h; cases h), fun a w ok => by simp only [execOp, ho, ok.fr.ev hx]; simp [Instr.loadAt, Instr.sureAddr, load_cells ha hz hn (hc w ok.sym)]⟩
theorem Still.nilCheck [Flow] {x : Operand} {A : Addr} (ho : o.op = .nilCheck x) (hx : F.ev x = some (.pointer (some A))) : Still C o F L (.pointer (some A)) :=
  ⟨fun c h => (by rw [ho] at h; cases h), fun a w ok => by simp only [execOp, ho, ok.fr.ev hx]; rfl⟩
theorem Still.fieldAddr [Flow] {s : TypeId} {x : Operand} {k : Nat} {A : Addr} {fs : Array Field} {f : Field} {n : Nat} (ho : o.op = .fieldAddr s x k) (hx : F.ev x = some (.pointer (some A))) (hs : C.P.underlying s = some (.struct fs)) (hf : fs[k]? = some f)
    (hz : ∀ w, (sizeOf f.type).run C.P w = .ok (n + 1) w) : Still C o F L (.pointer (some (A.add f.offset))) :=
  ⟨fun c h => (by rw [ho] at h; cases h), fun a w ok => by
    simp only [execOp, ho, ok.fr.ev hx]
    simp [Instr.fieldAt, run_underlying hs, hf, Instr.sureAddr, fieldPlace, hz]⟩
theorem Still.indexSlice [Flow] {t e : TypeId} {x ix : Operand} {A : Addr} {len cap : Nat} {k : IntKind} {i : Int} {n : Nat} (ho : o.op = .indexAddr t x ix) (hx : F.ev x = some (.slice (some A) len cap)) (hi : F.ev ix = some (.int k i))
    (ht : C.P.underlying t = some (.slice e)) (hz : ∀ w, (sizeOf e).run C.P w = .ok n w) (hb : 0 ≤ i ∧ i < len) : Still C o F L (.pointer (some (A.add (i.toNat * n)))) :=
  ⟨fun c h => (by rw [ho] at h; cases h), fun a w ok => by
    simp only [execOp, ho, ok.fr.ev hx, ok.fr.ev hi]
    simp [Instr.indexAt, asIntOf, run_underlying ht, hb, hz]⟩
theorem Still.indexArr [Flow] {t e : TypeId} {x ix : Operand} {A : Addr} {len : Nat} {k : IntKind} {i : Int} {n : Nat} (ho : o.op = .indexAddr t x ix) (hx : F.ev x = some (.pointer (some A))) (hi : F.ev ix = some (.int k i))
    (ht : C.P.underlying t = some (.array len e)) (hz : ∀ w, (sizeOf e).run C.P w = .ok n w) (hb : 0 ≤ i ∧ i < len) : Still C o F L (.pointer (some (A.add (i.toNat * n)))) :=
  ⟨fun c h => (by rw [ho] at h; cases h), fun a w ok => by
    simp only [execOp, ho, ok.fr.ev hx, ok.fr.ev hi]
    simp [Instr.indexAt, asIntOf, run_underlying ht, Instr.sureAddr, hb, hz]⟩
/-- An element of an array that is a value. -/
theorem Still.index [Flow] {t e : TypeId} {x ix : Operand} {cs : Array Value} {len : Nat} {k : IntKind} {i : Int} {v : Value} (ho : o.op = .index t x ix) (hx : F.ev x = some (.agg cs)) (hi : F.ev ix = some (.int k i))
    (ht : C.P.underlying t = some (.array len e)) (hz : ∀ w, (sizeOf e).run C.P w = .ok 1 w) (ha : ∀ w, (isAgg e).run C.P w = .ok false w) (hb : 0 ≤ i ∧ i < len) (hv : cs[i.toNat]? = some v) : Still C o F L v :=
  ⟨fun c h => (by rw [ho] at h; cases h), fun a w ok => by
    simp only [execOp, ho, ok.fr.ev hx, ok.fr.ev hi]
    simp [Instr.index, asIntOf, run_underlying ht, hb, hz, part, ha, hv]⟩
theorem Still.field1 [Flow] {s : TypeId} {x : Operand} {k : Nat} {cs : Array Value} {fs : Array Field} {f : Field} {v : Value} (ho : o.op = .field s x k) (hx : F.ev x = some (.agg cs)) (hs : C.P.underlying s = some (.struct fs)) (hf : fs[k]? = some f)
    (ha : ∀ w, (isAgg f.type).run C.P w = .ok false w) (hv : cs[f.offset]? = some v) : Still C o F L v :=
  ⟨fun c h => (by rw [ho] at h; cases h), fun a w ok => by
    simp only [execOp, ho, ok.fr.ev hx]
    simp [Instr.field, run_underlying hs, hf, asAgg, part, ha, hv]⟩
theorem Still.extract [Flow] {x : Operand} {i : Nat} {vs : Array Value} {v : Value} (ho : o.op = .extract x i) (hx : F.ev x = some (.tuple vs)) (hv : vs[i]? = some v) : Still C o F L v :=
  ⟨fun c h => (by rw [ho] at h; cases h), fun a w ok => by
    simp only [execOp, ho, ok.fr.ev hx]
    simp [Instr.extract, hv]⟩
theorem Still.not [Flow] {t : TypeId} {x : Operand} {b : Bool} (ho : o.op = .unOp .not t x) (hx : F.ev x = some (.bool b)) : Still C o F L (.bool (!b)) :=
  ⟨fun c h => (by rw [ho] at h; cases h), fun a w ok => by
    simp only [execOp, ho, ok.fr.ev hx]
    simp [Op.unary]⟩
/-- The range of a kind of integers. -/
def Fits (k : IntKind) (n : Int) : Prop := k.min ≤ n ∧ n ≤ k.max
theorem Fits.wrap {k : IntKind} {n : Int} (h : Fits k n) : k.wrap n = n := by
  unfold Fits at h
  obtain ⟨h1, h2⟩ := h
  cases k <;> simp only [IntKind.wrap, IntKind.min, IntKind.max, IntKind.bits, IntKind.signed] at h1 h2 ⊢ <;> simp at h1 h2 ⊢ <;> (try split) <;> omega
theorem fits64 {n : Int} (h1 : -9223372036854775808 ≤ n) (h2 : n ≤ 9223372036854775807) : Fits .i64 n := ⟨by simpa [IntKind.min, IntKind.signed, IntKind.bits] using h1, by simpa [IntKind.max, IntKind.signed, IntKind.bits] using h2⟩
theorem Still.neg [Flow] {t : TypeId} {x : Operand} {k : IntKind} {i : Int} (ho : o.op = .unOp .neg t x) (hx : F.ev x = some (.int k i)) (hf : Fits k (-i)) : Still C o F L (.int k (-i)) :=
  ⟨fun c h => (by rw [ho] at h; cases h), fun a w ok => by
    simp only [execOp, ho, ok.fr.ev hx]
    simp [Op.unary, Op.intArith, hf.wrap]⟩
section bin
variable {xt yt : TypeId} {x y : Operand} {k : IntKind} {i j : Int}
theorem Still.add [Flow] (ho : o.op = .binOp .add xt x y yt) (hx : F.ev x = some (.int k i)) (hy : F.ev y = some (.int k j)) (hf : Fits k (i + j)) : Still C o F L (.int k (i + j)) :=
  ⟨fun c h => (by rw [ho] at h; cases h), fun a w ok => by simp only [execOp, ho, ok.fr.ev hx, ok.fr.ev hy]; simp [eqGuard_add, binOp_add, Op.intArith, hf.wrap]⟩
theorem Still.sub [Flow] (ho : o.op = .binOp .sub xt x y yt) (hx : F.ev x = some (.int k i)) (hy : F.ev y = some (.int k j)) (hf : Fits k (i - j)) : Still C o F L (.int k (i - j)) :=
  ⟨fun c h => (by rw [ho] at h; cases h), fun a w ok => by simp only [execOp, ho, ok.fr.ev hx, ok.fr.ev hy]; simp [eqGuard_sub, binOp_sub, Op.intArith, hf.wrap]⟩
theorem Still.mul [Flow] (ho : o.op = .binOp .mul xt x y yt) (hx : F.ev x = some (.int k i)) (hy : F.ev y = some (.int k j)) (hf : Fits k (i * j)) : Still C o F L (.int k (i * j)) :=
  ⟨fun c h => (by rw [ho] at h; cases h), fun a w ok => by simp only [execOp, ho, ok.fr.ev hx, ok.fr.ev hy]; simp [eqGuard_mul, binOp_mul, Op.intArith, hf.wrap]⟩
/-- Quotient and remainder as Go has them. -/
theorem Still.quo [Flow] (ho : o.op = .binOp .quo xt x y yt) (hx : F.ev x = some (.int k i)) (hy : F.ev y = some (.int k j)) (hj : j ≠ 0) (hf : Fits k (i.tdiv j)) : Still C o F L (.int k (i.tdiv j)) :=
  ⟨fun c h => (by rw [ho] at h; cases h), fun a w ok => by simp only [execOp, ho, ok.fr.ev hx, ok.fr.ev hy]; simp [eqGuard_quo, binOp_quo, Op.intDiv, hj, hf.wrap]⟩
theorem Still.rem [Flow] (ho : o.op = .binOp .rem xt x y yt) (hx : F.ev x = some (.int k i)) (hy : F.ev y = some (.int k j)) (hj : j ≠ 0) : Still C o F L (.int k (i.tmod j)) :=
  ⟨fun c h => (by rw [ho] at h; cases h), fun a w ok => by simp only [execOp, ho, ok.fr.ev hx, ok.fr.ev hy]; simp [eqGuard_rem, binOp_rem, Op.intDiv, hj]⟩
theorem Still.remP [Flow] (ho : o.op = .binOp .rem xt x y yt) (hx : F.ev x = some (.int k i)) (hy : F.ev y = some (.int k j)) (hi : 0 ≤ i) (hj : 0 < j) : Still C o F L (.int k (i % j)) := by
  have e : i.tmod j = i % j := Int.tmod_eq_emod_of_nonneg hi
  rw [← e]; exact Still.rem ho hx hy (by omega)
theorem Still.lss [Flow] (ho : o.op = .binOp .lss xt x y yt) (hx : F.ev x = some (.int k i)) (hy : F.ev y = some (.int k j)) : Still C o F L (.bool (decide (i < j))) :=
  ⟨fun c h => (by rw [ho] at h; cases h), fun a w ok => by simp only [execOp, ho, ok.fr.ev hx, ok.fr.ev hy]; simp [eqGuard_lss, binOp_lss]⟩
theorem Still.gtr [Flow] (ho : o.op = .binOp .gtr xt x y yt) (hx : F.ev x = some (.int k i)) (hy : F.ev y = some (.int k j)) : Still C o F L (.bool (decide (j < i))) :=
  ⟨fun c h => (by rw [ho] at h; cases h), fun a w ok => by simp only [execOp, ho, ok.fr.ev hx, ok.fr.ev hy]; simp [eqGuard_gtr, binOp_gtr]⟩
theorem Still.geq [Flow] (ho : o.op = .binOp .geq xt x y yt) (hx : F.ev x = some (.int k i)) (hy : F.ev y = some (.int k j)) : Still C o F L (.bool (decide (j ≤ i))) :=
  ⟨fun c h => (by rw [ho] at h; cases h), fun a w ok => by simp only [execOp, ho, ok.fr.ev hx, ok.fr.ev hy]; simp [eqGuard_geq, binOp_geq]⟩
theorem Still.eql [Flow] (ho : o.op = .binOp .eql xt x y yt) (hx : F.ev x = some (.int k i)) (hy : F.ev y = some (.int k j)) : Still C o F L (.bool (decide (i = j))) :=
  ⟨fun c h => (by rw [ho] at h; cases h), fun a w ok => by simp only [execOp, ho, ok.fr.ev hx, ok.fr.ev hy]; simp [eqGuard_at_int, binOp_eql]; exact Bool.beq_eq_decide_eq i j⟩
theorem Still.neq [Flow] (ho : o.op = .binOp .neq xt x y yt) (hx : F.ev x = some (.int k i)) (hy : F.ev y = some (.int k j)) : Still C o F L (.bool (decide (i ≠ j))) :=
  ⟨fun c h => (by rw [ho] at h; cases h), fun a w ok => by simp only [execOp, ho, ok.fr.ev hx, ok.fr.ev hy]; simp [eqGuard_at_int, binOp_neq, bne, Bool.beq_eq_decide_eq i j]⟩
theorem Still.eqlB [Flow] {b c : Bool} (ho : o.op = .binOp .eql xt x y yt) (hx : F.ev x = some (.bool b)) (hy : F.ev y = some (.bool c)) (ht : C.P.underlying xt = some .bool) : Still C o F L (.bool (b == c)) :=
  ⟨fun c h => (by rw [ho] at h; cases h), fun a w ok => by simp only [execOp, ho, ok.fr.ev hx, ok.fr.ev hy]; simp [eqGuard_at_bool, binOp, Op.equal, Op.maxDepth, run_equalIn_bool' w 9999 xt b c ht]⟩
end bin
section builtins
variable {ts : Array TypeId} {x : Operand}
theorem Still.lenSlice [Flow] {t : TypeId} {p : Option Addr} {n c : Nat} (ho : o.op = .call { callee := .builtin .len, args := #[x], argTypes := #[t] }) (hx : F.ev x = some (.slice p n c)) (ht : C.P.underlying t = some (.slice (C.P.elem t))) : Still C o F L (.int .i64 n) :=
  ⟨fun c h => (by rw [ho] at h; cases h), fun a w ok => by
    obtain ⟨d, op, ty, ps, af, g⟩ := o; subst ho
    rw [BigFrame.execOp_builtin, BigFrame.builtin_len]
    simp [ok.fr.ev hx, run_len_slice w _ _ _ _ _ ht, goInt]⟩
end builtins
/-- A value put together: the run is a closed fact. -/
theorem Still.build [Flow] {t : TypeId} {ps : Array (Nat × Operand)} {vs : Array (Nat × Value)} {v : Value} (ho : o.op = .build t ps) (hv : (ps.toList.map fun p => (p.1, F.ev p.2)) = vs.toList.map fun p => (p.1, some p.2)) (hr : ∀ w, (Instr.build t vs).run C.P w = .ok v w) : Still C o F L v :=
  ⟨fun c h => (by rw [ho] at h; cases h), fun a w ok => by
    have e : (ps.map fun (i, x) => (i, a.eval x)) = vs := by
      apply Array.ext'
      rw [Array.toList_map]
      revert hv
      generalize ps.toList = l
      generalize vs.toList = m
      induction l generalizing m with
      | nil => intro h; cases m <;> simp at h ⊢
      | cons p l ih =>
        intro h
        cases m with
        | nil => simp at h
        | cons q m =>
          simp only [List.map_cons, List.cons.injEq, Prod.mk.injEq] at h ⊢
          obtain ⟨⟨h1, h2⟩, h3⟩ := h
          exact ⟨by rw [h1, ok.fr.ev h2], ih m h3⟩
    simp only [execOp, ho, e]
    simp [hr]⟩
theorem Still.makeFunc [Flow] {fn : FuncId} {cs : Array Operand} {vs : Array Value} (ho : o.op = .makeFunc (.func fn) #[] cs) (hv : cs.toList.map F.ev = vs.toList.map some) : Still C o F L (.func (.func fn) #[] vs) :=
  ⟨fun c h => (by rw [ho] at h; cases h), fun a w ok => by
    have e : cs.map a.eval = vs := by
      apply Array.ext'
      rw [Array.toList_map]
      revert hv
      generalize cs.toList = l
      generalize vs.toList = m
      induction l generalizing m with
      | nil => intro h; cases m <;> simp at h ⊢
      | cons p l ih =>
        intro h
        cases m with
        | nil => simp at h
        | cons q m =>
          simp only [List.map_cons, List.cons.injEq] at h ⊢
          exact ⟨ok.fr.ev h.1, ih m h.2⟩
    simp only [execOp, ho, e]
    simp [Instr.makeFunc]⟩
end still
end Go.V
/- The proof layer, part d: operations that make or write memory; calls. -/
namespace Go.V
open Go
section mem
variable {C : Cx} {F : Fr} {L : List HL} {o : Oper}
theorem wpIn_value {a : Act} {w w' : World} {next : Act → World → Prop} {Q : Exit → Act → World → Prop} {v : Value} (hd : ∀ c, o.op ≠ .defer c) (hr : (execOp a.eval o).run C.P w = .ok (.value v) w') (h : next (a.put o.dst v) w') : o.wpIn (FW C.r) 0 C.P a w next Q := by
  refine ⟨fun _ _ => trivial, ?_⟩
  rw [Oper.semAt_eq _ _ _ hd, hr]
  exact h
theorem wpIn_skip' {a : Act} {w w' : World} {next : Act → World → Prop} {Q : Exit → Act → World → Prop} (hd : ∀ c, o.op ≠ .defer c) (hr : (execOp a.eval o).run C.P w = .ok .skip w') (h : next (a.put o.dst undef) w') : o.wpIn (FW C.r) 0 C.P a w next Q := by
  refine ⟨fun _ _ => trivial, ?_⟩
  rw [Oper.semAt_eq _ _ _ hd, hr]
  exact h
/-- A new block: the result is told by its number. -/
theorem grows_new [Flow] {ob : Obj} {V : Nat → Value} (hd : ∀ c, o.op ≠ .defer c) (hr : ∀ a w, Ok C F L a w → (execOp a.eval o).run C.P w = .ok (.value (V w.heap.size)) (w.alloc ob)) : Grows C o F L (fun _ : Nat => True) V (fun b => [HL.obj b ob]) :=
  fun a w ok _ _ h => wpIn_value hd (hr a w ok) (h w.heap.size _ trivial (Old.alloc Nil w ob) (ok.sym.alloc ob))
theorem Grows.alloc [Flow] {t : TypeId} {z : Value} (ho : o.op = .alloc t) (hz : ∀ w, (zeroValue t).run C.P w = .ok z w) : Grows C o F L (fun _ : Nat => True) (fun b => .pointer (some ⟨b, 0, none⟩)) (fun b => [HL.obj b (.cells z.cells t (0, 0))]) :=
  grows_new (fun c h => (by rw [ho] at h; cases h)) fun a w ok => by simp [execOp, ho, Instr.alloc, hz, newVar, newRow]
theorem Grows.box [Flow] {t : TypeId} {x : Operand} {v : Value} (ho : o.op = .box t x) (hx : F.ev x = some v) : Grows C o F L (fun _ : Nat => True) (fun b => .pointer (some ⟨b, 0, none⟩)) (fun b => [HL.obj b (.cells v.cells t (0, 0))]) :=
  grows_new (fun c h => (by rw [ho] at h; cases h)) fun a w ok => by simp [execOp, ho, ok.fr.ev hx, Instr.box, newVar, newRow]
theorem Grows.makeMap [Flow] {t : TypeId} (ho : o.op = .makeMap t none) : Grows C o F L (fun _ : Nat => True) (fun b => .map (some b)) (fun b => [HL.obj b (.map #[] 0)]) :=
  grows_new (fun c h => (by rw [ho] at h; cases h)) fun a w ok => by simp [execOp, ho, Instr.makeMap]
theorem parts_eq [Flow] {a : Act} {w : World} (ok : Ok C F L a w) {ps : Array (Nat × Operand)} {vs : Array (Nat × Value)} (hv : (ps.toList.map fun p => (p.1, F.ev p.2)) = vs.toList.map fun p => (p.1, some p.2)) : (ps.map fun (i, x) => (i, a.eval x)) = vs := by
  apply Array.ext'
  rw [Array.toList_map]
  revert hv
  generalize ps.toList = l
  generalize vs.toList = m
  induction l generalizing m with
  | nil => intro h; cases m <;> simp at h ⊢
  | cons p l ih =>
    intro h
    cases m with
    | nil => simp at h
    | cons q m =>
      simp only [List.map_cons, List.cons.injEq, Prod.mk.injEq] at h ⊢
      obtain ⟨⟨h1, h2⟩, h3⟩ := h
      exact ⟨by rw [h1, ok.fr.ev h2], ih m h3⟩
/-- '[]T{..}' written out: the cells are a closed fact. -/
theorem Grows.buildSlice [Flow] {t e : TypeId} {n size : Nat} {ps : Array (Nat × Operand)} {vs : Array (Nat × Value)} {z : Value} {cells : Array Value} (ho : o.op = .buildSlice t n ps) (hv : (ps.toList.map fun p => (p.1, F.ev p.2)) = vs.toList.map fun p => (p.1, some p.2))
    (ht : C.P.underlying t = some (.slice e)) (hz : ∀ w, (sizeOf e).run C.P w = .ok size w) (hzv : ∀ w, (zeroValue e).run C.P w = .ok z w) (hsmall : n * size ≤ 16777216)
    (hf : Instr.fill (fun i => some (i * size, size)) ((Array.range (n * size)).map ((if n * size = 0 then #[] else z.cells)[· % (if n * size = 0 then #[] else z.cells).size]!)) vs.toList = some cells) :
    Grows C o F L (fun _ : Nat => True) (fun b => .slice (some ⟨b, 0, none⟩) n n) (fun b => [HL.obj b (.cells cells e (0, 0))]) :=
  grows_new (fun c h => (by rw [ho] at h; cases h)) fun a w ok => by
    have hs : ¬ (2 ^ 24 < n * size) := by omega
    simp only [execOp, ho, parts_eq ok hv]
    simp only [Instr.buildSlice, Sem.run_bind, run_underlying ht, Result.andThen_ok, hz]
    rw [if_neg hs]
    by_cases h0 : n * size = 0
    · simp only [h0, if_true] at hf
      simp only [h0, if_true, Sem.run_bind, Sem.run_pure, Result.andThen_ok, hf]
      simp [newRow]
    · simp only [h0, if_false] at hf
      simp only [h0, if_false, Sem.run_bind, Sem.run_pure, Result.andThen_ok, hzv, hf]
      simp [newRow]
theorem fill_one {n : Nat} {v : Value} {zs : Array Value} (hn : v.cells.size = n) (hz : zs.size = n) : Instr.fill (fun i => some (i * n, n)) zs [(0, v)] = some v.cells := by
  have key : ∀ (l : List Value) (k : Nat) (cs : Array Value), k + l.length = cs.size → ((l.zipIdx k).foldl (fun cs (c, j) => cs.setIfInBounds (0 + j) c) cs) = (cs.toList.take k ++ l).toArray := by
    intro l
    induction l with
    | nil => intro k cs h; simp only [List.length_nil, Nat.add_zero] at h; subst h; simp [List.take_of_length_le]
    | cons c l ih =>
      intro k cs h
      simp only [List.zipIdx_cons, List.foldl_cons]
      rw [ih (k + 1) _ (by simp only [List.length_cons] at h; rw [Array.size_setIfInBounds]; omega)]
      simp only [List.length_cons] at h
      have hk : k < cs.size := by omega
      simp only [Nat.zero_add, Array.toList_setIfInBounds]
      rw [List.take_add_one]
      simp [List.take_set, hk]
      rw [List.set_eq_of_length_le (by simp; omega)]
  have h0 : v.cells.zipIdx.foldl (fun cs (c, j) => cs.setIfInBounds (0 * n + j) c) zs = v.cells := by
    rw [← Array.foldl_toList, Array.toList_zipIdx]
    have := key v.cells.toList 0 zs (by simp [hn, hz])
    simpa using this
  simp only [Instr.fill]
  have hc : ¬ (v.cells.size ≠ n || decide (0 * n + v.cells.size > zs.size)) = true := by simp [hn, hz]
  rw [if_neg hc]
  simpa using h0
/-- A slice of one element: the source of 'append(l, x)'. -/
theorem Grows.slice1 [Flow] {t e : TypeId} {size : Nat} {x : Operand} {v z : Value} (ho : o.op = .buildSlice t 1 #[(0, x)]) (hx : F.ev x = some v) (ht : C.P.underlying t = some (.slice e)) (hz : ∀ w, (sizeOf e).run C.P w = .ok size w)
    (hv : v.cells.size = size) (hzv : ∀ w, (zeroValue e).run C.P w = .ok z w) (hsmall : size ≤ 16777216) :
    Grows C o F L (fun _ : Nat => True) (fun b => .slice (some ⟨b, 0, none⟩) 1 1) (fun b => [HL.obj b (.cells v.cells e (0, 0))]) := by
  by_cases h0 : size = 0
  · subst h0
    exact Grows.buildSlice (vs := #[(0, v)]) ho (by simp [hx]) ht hz hzv (by omega) (fill_one (n := 0) (zs := (Array.range (1 * 0)).map _) hv (by simp))
  · exact Grows.buildSlice (vs := #[(0, v)]) ho (by simp [hx]) ht hz hzv (by omega) (fill_one (zs := (Array.range (1 * size)).map _) hv (by simp))
/-- The zero cells of n elements. -/
def zeros (n : Nat) (zs : List Value) : Array Value := ((List.replicate n zs).flatten).toArray
theorem madeCells_eq (z : Array Value) (n : Nat) : madeCells z (n * z.size) = zeros n z.toList := by
  apply Array.ext'
  simp only [zeros]
  apply List.ext_getElem?
  intro j
  by_cases hz : z.size = 0
  · have hz' : z.toList = [] := by simpa using hz
    rw [hz']
    simp [madeCells, hz]
  · by_cases hj : j < n * z.size
    · have hm : j % z.size < z.size := Nat.mod_lt _ (by omega)
      have e1 : (madeCells z (n * z.size)).toList[j]? = z[j % z.size]? := by
        simp [madeCells, hj, hm]
      rw [e1]
      have key : ∀ (n j : Nat), j < n * z.size → ((List.replicate n z.toList).flatten)[j]? = z[j % z.size]? := by
        intro n
        induction n with
        | zero => intro j hj; simp at hj
        | succ n ih =>
          intro j hj
          rw [List.replicate_succ, List.flatten_cons]
          by_cases h1 : j < z.size
          · rw [List.getElem?_append_left (by simpa using h1), Nat.mod_eq_of_lt h1]; simp
          · rw [List.getElem?_append_right (by simp; omega)]
            have : (j - z.size) % z.size = j % z.size := (Nat.mod_eq_sub_mod (by omega)).symm
            rw [Nat.succ_mul] at hj
            simp only [Array.length_toList]
            rw [ih (j - z.size) (by omega), this]
      exact (key n j hj).symm
    · rw [List.getElem?_eq_none (by simp [madeCells]; omega), List.getElem?_eq_none]
      simp [List.length_flatten]; omega
theorem Grows.makeSlice [Flow] {t e : TypeId} {x y : Operand} {n size bytes : Nat} {k k' : IntKind} {z : Value} (ho : o.op = .makeSlice t x y) (hx : F.ev x = some (.int k (n : Int))) (hy : F.ev y = some (.int k' (n : Int)))
    (ht : C.P.underlying t = some (.slice e)) (hi : (C.P.info? e).map (fun i => (i.zero, i.size, i.bytes)) = some (some z, size, bytes)) (hzs : z.cells.size = size) (hb : bytes * n ≤ 281474976710656) (hn : n ≤ 9223372036854775807) :
    Grows C o F L (fun _ : Nat => True) (fun b => .slice (some ⟨b, 0, none⟩) n n) (fun b => [HL.obj b (.cells (zeros n z.cells.toList) e (0, 0))]) :=
  grows_new (fun c h => (by rw [ho] at h; cases h)) fun a w ok => by
    obtain ⟨i, hi0, hi1, hi2, hi3⟩ := info_parts hi
    have hb' : (i.bytes : Int) * (n : Int) ≤ 281474976710656 := by
      have h : ((i.bytes * n : Nat) : Int) ≤ 281474976710656 := by rw [hi3]; omega
      rwa [Int.natCast_mul] at h
    have hr := run_make (P := C.P) w t e i z ht hi0 hi1 k k' n n (by omega) (Int.le_refl _) hb' (by omega)
    simp only [Int.toNat_natCast, hi2, ← hzs, madeCells_eq] at hr
    simp only [execOp, ho, ok.fr.ev hx, ok.fr.ev hy]
    simp [hr]
def putAll (cs : Array Value) (k : Nat) : List Value → Array Value
  | [] => cs
  | v :: r => putAll (cs.setIfInBounds k v) (k + 1) r
theorem size_putAll : ∀ (vs : List Value) (cs : Array Value) (k : Nat), (putAll cs k vs).size = cs.size
  | [], _, _ => rfl
  | v :: r, cs, k => by rw [putAll, size_putAll r]; simp
theorem frozen_free {w : World} {b k : Nat} {cs : Array Value} {t : TypeId} (h : w.heap[b]? = some (.cells cs t (0, 0))) : w.frozen? ⟨b, k, none⟩ = false := by simp [World.frozen?, h]
theorem run_storeCells_own [Flow] {P : Program} {b : Nat} {t : TypeId} : ∀ (vs : List Value) (i : Nat) (k : Nat) (cs : Array Value) (w : World), w.heap[b]? = some (.cells cs t (0, 0)) → k + i + vs.length ≤ cs.size → (∀ v ∈ vs, v.oneCell' = true) →
    ∃ w', (storeCells ⟨b, k, none⟩ vs i).run P w = .ok () w' ∧ w'.heap[b]? = some (.cells (putAll cs (k + i) vs) t (0, 0)) ∧ Old (fun c => c = b) w w' ∧ w'.heap.size = w.heap.size
  | [], i, k, cs, w, h, _, _ => ⟨w, rfl, h, Old.refl _ w, rfl⟩
  | v :: r, i, k, cs, w, h, hl, h1 => by
    simp only [List.length_cons] at hl
    have hk : k + i < cs.size := by omega
    have hcell : w.cell? ⟨b, k + i, none⟩ = some cs[k + i] := cell_of_obj h (by simp [hk])
    have hs := heap_setCell (k := k + i) h v
    obtain ⟨w', hr, hh, ho, hz⟩ := run_storeCells_own r (i + 1) k (cs.setIfInBounds (k + i) v) _ hs (by simp; omega) (fun u hu => h1 u (by simp [hu]))
    refine ⟨w', ?_, hh, (Old.setCell (S := fun c => c = b) w ⟨b, k + i, none⟩ v rfl).trans ho, by simpa using hz⟩
    simp only [storeCells, Sem.run_bind, add_new, run_store P w _ v .plain (h1 v (by simp)), hcell, frozen_free h, Bool.false_eq_true, if_false, Result.andThen_ok]
    exact hr
theorem Does.store [Flow] {t : TypeId} {x y : Operand} {i b k n : Nat} {cs : Array Value} {e : TypeId} {v : Value} (ho : o.op = .store t x y) (hx : F.ev x = some (.pointer (some ⟨b, k, none⟩))) (hy : F.ev y = some v)
    (hi : L[i]? = some (HL.obj b (.cells cs e (0, 0)))) (hz : ∀ w, (sizeOf t).run C.P w = .ok n w) (hn : v.cells.size = n) (hk : Nat.ble (k + n) cs.size = true) (h1 : v.cells.toList.all Value.oneCell' = true) :
    Does C o F L (fun _ : Unit => True) (fun _ => undef) (fun _ => L.set i (HL.obj b (.cells (putAll cs k v.cells.toList) e (0, 0)))) := fun a w ok next Q h => by
  obtain ⟨w', hr, hh, hold, hsz⟩ := run_storeCells_own (P := C.P) v.cells.toList 0 k cs w (ok.sym.at hi) (by have := Nat.le_of_ble_eq_true hk; simp [hn]; omega) (List.all_eq_true.1 h1)
  simp only [Nat.add_zero] at hh
  refine wpIn_skip' (fun c h => (by rw [ho] at h; cases h)) (w' := w') ?_ (h () w' trivial ?_)
  · simp only [execOp, ho, ok.fr.ev hx, ok.fr.ev hy]
    simp [Instr.storeAt, Instr.sureAddr, storeVar, hn, hz, hr]
  · exact ok.sym.turn hi (fun c hc => ⟨.inl hc, by have e : c = b := hc; subst e; rw [hsz]; exact ok.sym.lt hi⟩) hold hh
/-- One cell. -/
theorem Does.store1 [Flow] {t : TypeId} {x y : Operand} {i b k : Nat} {cs : Array Value} {e : TypeId} {v : Value} (ho : o.op = .store t x y) (hx : F.ev x = some (.pointer (some ⟨b, k, none⟩))) (hy : F.ev y = some v)
    (hi : L[i]? = some (HL.obj b (.cells cs e (0, 0)))) (hz : ∀ w, (sizeOf t).run C.P w = .ok 1 w) (h1 : v.oneCell' = true) (hk : Nat.blt k cs.size = true) :
    Does C o F L (fun _ : Unit => True) (fun _ => undef) (fun _ => L.set i (HL.obj b (.cells (cs.setIfInBounds k v) e (0, 0)))) := by
  have hc : v.cells = #[v] := by cases v <;> first | rfl | cases h1
  have := Does.store (n := 1) ho hx hy hi hz (by simp [hc]) (Nat.ble_eq_true_of_le (by have := Nat.le_of_ble_eq_true hk; omega)) (by simp [hc, h1])
  simpa [hc, putAll] using this
/-- The slice value v has n elements of type e, k cells each, and owns the cells xs (there may be room behind). -/
def HL.own (e : TypeId) (k : Nat) (v : Value) (n : Nat) (xs : List Value) : HL :=
  ⟨fun b => v.ownBlock = some b, fun w => w.ownsRow 0 e k v n xs, fun w w' h hh => by
    refine ⟨hh.1, ?_⟩
    rcases hh.2 with h2 | ⟨g, cap, cur, hv, hg, hb, r⟩
    · exact .inl h2
    · exact .inr ⟨g, cap, cur, hv, hg, (h g (by rw [hv]; rfl)).trans hb, r⟩⟩
end mem
end Go.V
namespace Go.V
open Go
section memA
variable {C : Cx} {F : Fr} {L : List HL} {o : Oper}
theorem append_block {P : Program} {w w' : World} {t e ty : TypeId} {inf : TypeInfo} {z v v' : Value} {n m c : Nat} {xs news : List Value} {A : Addr} (ht : P.underlying t = some (.slice e)) (hi0 : P.info? e = some inf) (hi1 : inf.zero = some z)
    (hown : w.ownsRow 0 e inf.size v n xs) (hl : news.length = m * inf.size) (hnews : ∀ j u, news[j]? = some u → w.cell? (A.add j) = some u) (h1 : ∀ u ∈ news, u.oneCell' = true) (hb : (n + m) * inf.bytes ≤ 140737488355328) (hm : n + m ≤ 9223372036854775807)
    (hr : (Builtin.append_ #[t, t] ty #[v, .slice (some A) m c]).run P w = .ok v' w') : v'.ownBlock = v.ownBlock ∨ v'.ownBlock = some w.heap.size := by
  rcases hown.2 with ⟨rfl, rfl⟩ | ⟨g, cap, cur, rfl, hbg, hg, hnc, hcm, hcs, htake⟩
  · by_cases h0 : m = 0
    · subst h0
      have hn : news = [] := List.eq_nil_of_length_eq_zero (by simpa using hl)
      left
      have : (Builtin.append_ #[t, t] ty #[.slice none 0 0, .slice (some A) 0 c]).run P w = .ok (.slice none 0 0) w := by
        simp [Builtin.append_, run_underlying ht, sizeOf, typeInfo, hi0, Builtin.lenOf, Builtin.firstCells, loadCells, loadCellsFrom]
      rw [this] at hr
      cases hr; rfl
    · right
      have := run_append_nil (P := P) w t ty e inf z ht hi0 hi1 A m c news hl hnews (by omega) (by omega) (by have := hb; simp only [Nat.zero_add] at this; omega)
      rw [this] at hr
      cases hr; rfl
  · by_cases hroom : n + m ≤ cap
    · left
      have hfit : n * inf.size + news.length ≤ cur.size := by rw [hl, hcs, ← Nat.add_mul]; exact Nat.mul_le_mul_right _ hroom
      have := run_append_room (P := P) w t ty e inf ht hi0 g n cap cur hg A m c news hl hnews h1 hroom hfit
      rw [this] at hr
      cases hr; rfl
    · right
      have holds : ∀ j u, xs[j]? = some u → w.cell? ((⟨g, 0, none⟩ : Addr).add j) = some u := hown.cells (g := g) rfl
      have := run_append_grow (P := P) w t ty e inf z ht hi0 hi1 ⟨g, 0, none⟩ n cap xs hown.1 holds A m c news hl hnews (by omega) (by omega) (growslice_fits (by omega) hb)
      rw [this] at hr
      cases hr; rfl
theorem Does.append {t e ty : TypeId} {x y : Operand} {i n k m c bytes : Nat} {v z : Value} {xs news : List Value} {A : Addr} (ho : o.op = .call { callee := .builtin .append, args := #[x, y], argTypes := #[t, t] }) (hty : o.type = ty)
    (hx : F.ev x = some v) (hy : F.ev y = some (.slice (some A) m c)) (hi : L[i]? = some (HL.own e k v n xs)) (ht : C.P.underlying t = some (.slice e))
    (hinf : (C.P.info? e).map (fun i => (i.zero, i.size, i.bytes)) = some (some z, k, bytes)) (hzs : z.cells.size = k) (hk : 0 < k)
    (hnews : ∀ w, Sym C.w0 C.S L w → Cells w A news) (hl : news.length = m * k) (h1 : ∀ u ∈ news, u.oneCell' = true) (hb : (n + m) * bytes ≤ 140737488355328) (hm : n + m ≤ 9223372036854775807) :
    Does C o F L (fun v' : Value => v' = .slice none 0 0 ↔ v = .slice none 0 0 ∧ m = 0) (fun v' => v') (fun v' => L.set i (HL.own e k v' (n + m) (xs ++ news))) := fun a w ok next Q h => by
  obtain ⟨inf, hi0, hi1, hi2, hi3⟩ := info_parts hinf
  have hown : w.ownsRow 0 e k v n xs := ok.sym.at hi
  obtain ⟨v', w', hr, hown', hg, hnil⟩ := run_append_own (P := C.P) w 0 t ty e inf z k bytes ht hi0 hi1 hi2 hi3 hzs hk v n xs hown A m c news hl (fun j u hj => hnews w ok.sym j u hj) h1 (by simpa [maxLen] using hm) hb (Nat.zero_le _)
  refine wpIn_value (fun c h => (by rw [ho] at h; cases h)) (w' := w') (v := v') ?_ (h v' w' hnil ?_)
  · obtain ⟨d, op, ty', ps, af, g⟩ := o
    subst ho; subst hty
    rw [BigFrame.execOp_builtin, BigFrame.builtin_append]
    simp [ok.fr.ev hx, ok.fr.ev hy, hr]
  · have hold : Old (HL.own e k v n xs).supp w w' := ⟨hg.os, hg.tape, hg.output, hg.size, fun j hj hn' => hg.block j hj (fun e => hn' e.symm), fun f => False.elim f⟩
    refine ok.sym.turn hi (fun b hbb => ⟨?_, (hown'.lt b hbb).2⟩) hold hown'
    subst hi2; subst hi3
    rcases append_block ht hi0 hi1 hown hl (fun j u hj => hnews w ok.sym j u hj) h1 hb hm hr with e1 | e1
    · left; exact e1.symm.trans hbb
    · right
      have : some b = some w.heap.size := (show v'.ownBlock = some b from hbb).symm.trans e1
      cases this; exact Nat.le_refl _
end memA
end Go.V
namespace Go.V
open Go
section mem
variable {C : Cx} {F : Fr} {L : List HL} {o : Oper}
/-- Nothing is owned yet. -/
theorem Sym.own_nil [Flow] {w0 w : World} {S : Nat → Prop} {L : List HL} (hs : Sym w0 S L w) (e : TypeId) (k : Nat) : Sym w0 S (HL.own e k (.slice none 0 0) 0 [] :: L) w := by
  refine ⟨hs.old, fun h hm => ?_, fun h hm b hb => ?_, List.pairwise_cons.2 ⟨fun h _ b hb => ?_, hs.apart⟩⟩
  · rcases List.mem_cons.1 hm with rfl | hm
    · exact World.ownsRow_nil w 0 e k
    · exact hs.holds h hm
  · rcases List.mem_cons.1 hm with rfl | hm
    · cases hb
    · exact hs.supp h hm b hb
  · cases hb
theorem RunL.own_nil [Flow] {ops : Array Oper} {Q : Exit → Act → World → Prop} {l : List Oper} (e : TypeId) (k : Nat) (h : RunL C ops Q l F (HL.own e k (.slice none 0 0) 0 [] :: L)) : RunL C ops Q l F L := fun a w ok => h a w ⟨ok.fr, ok.sym.own_nil e k⟩
theorem RunC.own_nil [Flow] {c : Code} {Q : Exit → Act → World → Prop} (e : TypeId) (k : Nat) (h : RunC C c Q F (HL.own e k (.slice none 0 0) 0 [] :: L)) : RunC C c Q F L := fun a w ok => h a w ⟨ok.fr, ok.sym.own_nil e k⟩
/-- A whole block is owned. -/
theorem own_of_obj {w : World} {b : Nat} {cs : Array Value} {e : TypeId} {n k : Nat} (h : w.heap[b]? = some (.cells cs e (0, 0))) (hs : cs.size = n * k) (hm : n ≤ 9223372036854775807) : w.ownsRow 0 e k (.slice (some ⟨b, 0, none⟩) n n) n cs.toList := by
  refine ⟨by simpa using hs, .inr ⟨b, n, cs, rfl, Nat.zero_le _, h, Nat.le_refl _, by simpa [maxLen] using hm, hs, ?_⟩⟩
  rw [List.take_of_length_le]
  simp [hs]
theorem Grows.call [Flow] {f : FuncId} {xs : Array Operand} {ts : Array TypeId} {vs : Array Value} {γ : Type} {φ : γ → Prop} {V : γ → Value} {H : γ → List HL} (ho : o.op = .call { callee := .value (.func f), args := xs, argTypes := ts })
    (hv : xs.toList.map F.ev = vs.toList.map some) (hc : ∀ args w, (callFunc f args).run C.P w = .ok (.enter f args) w) (hfn : ∀ w, Sym C.w0 C.S L w → Gives C.P f vs w Nil φ V H) : Grows C o F L φ V H := fun a w ok next Q h => by
  refine ⟨fun _ _ => trivial, ?_⟩
  rw [Oper.semAt_eq _ _ _ (fun c h => by rw [ho] at h; cases h)]
  have e : xs.map a.eval = vs := by
    apply Array.ext'
    rw [Array.toList_map]
    revert hv
    generalize xs.toList = l
    generalize vs.toList = m
    induction l generalizing m with
    | nil => intro h; cases m <;> simp at h ⊢
    | cons p l ih =>
      intro h
      cases m with
      | nil => simp at h
      | cons q m =>
        simp only [List.map_cons, List.cons.injEq] at h ⊢
        exact ⟨ok.fr.ev h.1, ih m h.2⟩
  have hrun : (execOp a.eval o).run C.P w = .ok (.enter f vs) w := by
    simp only [execOp, ho, resolve, e]
    simp [Act.eval, Deferred.ofValue, invoke, hc]
  rw [hrun, Oper.uponIn_enter]
  refine ⟨fun h => by simp [FW] at h, callsFW.2 ((hfn w ok.sym).mono ?_)⟩
  rintro en w' ⟨g, hφ, rfl, hs⟩
  exact h g w' hφ hs.old (ok.sym.grow hs.old hs.holds (fun k hk b hb => by have h1 := hs.supp k hk b hb; exact ⟨h1.2.resolve_right (fun x => x), h1.1⟩) hs.apart)
/-- A call of a function value. -/
theorem Grows.callV [Flow] {f : FuncId} {x : Operand} {cap : Array Value} {xs : Array Operand} {ts : Array TypeId} {vs : Array Value} {γ : Type} {φ : γ → Prop} {V : γ → Value} {H : γ → List HL} (ho : o.op = .call { callee := .value x, args := xs, argTypes := ts })
    (hx : F.ev x = some (.func (.func f) #[] cap)) (hv : xs.toList.map F.ev = vs.toList.map some) (hc : ∀ args w, (callFunc f args).run C.P w = .ok (.enter f args) w) (hfn : ∀ w, Sym C.w0 C.S L w → Gives C.P f (vs ++ cap) w Nil φ V H) : Grows C o F L φ V H := fun a w ok next Q h => by
  refine ⟨fun _ _ => trivial, ?_⟩
  rw [Oper.semAt_eq _ _ _ (fun c h => by rw [ho] at h; cases h)]
  have e : xs.map a.eval = vs := by
    apply Array.ext'
    rw [Array.toList_map]
    revert hv
    generalize xs.toList = l
    generalize vs.toList = m
    induction l generalizing m with
    | nil => intro h; cases m <;> simp at h ⊢
    | cons p l ih =>
      intro h
      cases m with
      | nil => simp at h
      | cons q m =>
        simp only [List.map_cons, List.cons.injEq] at h ⊢
        exact ⟨ok.fr.ev h.1, ih m h.2⟩
  have hrun : (execOp a.eval o).run C.P w = .ok (.enter f (vs ++ cap)) w := by
    simp only [execOp, ho, resolve, e, ok.fr.ev hx]
    simp [Deferred.ofValue, invoke, hc]
  rw [hrun, Oper.uponIn_enter]
  refine ⟨fun h => by simp [FW] at h, callsFW.2 ((hfn w ok.sym).mono ?_)⟩
  rintro en w' ⟨g, hφ, rfl, hs⟩
  exact h g w' hφ hs.old (ok.sym.grow hs.old hs.holds (fun k hk b hb => by have h1 := hs.supp k hk b hb; exact ⟨h1.2.resolve_right (fun x => x), h1.1⟩) hs.apart)
/-- A call that turns the blocks S' of the heaplets K, which are handed over. -/
theorem Sym.handed [Flow] {w0 w w' : World} {S S' : Nat → Prop} {K R H : List HL} (hs : Sym w0 S (K ++ R) w) (hk : ∀ b, S' b → b < w.heap.size → ∃ k ∈ K, k.supp b) (hc : Sym w S' H w') : Sym w0 S (H ++ R) w' := by
  have hp := List.pairwise_append.1 hs.apart
  have hfree : ∀ r ∈ R, ∀ b, r.supp b → ¬ S' b := fun r hr b hb hS => by
    obtain ⟨k, hkm, hkb⟩ := hk b hS (hs.supp r (List.mem_append_right _ hr) b hb).1
    exact hp.2.2 k hkm r hr b hkb hb
  refine ⟨hs.old.step hc.old (fun i hi hS => ?_), fun h hm => ?_, fun h hm b hb => ?_, List.pairwise_append.2 ⟨hc.apart, hp.2.1, fun h hm r hr b hb rb => ?_⟩⟩
  · have hz := hs.old.size
    obtain ⟨k, hkm, hkb⟩ := hk i hS (by omega)
    rcases (hs.supp k (List.mem_append_left _ hkm) i hkb).2 with h1 | h1
    · omega
    · exact h1
  · rcases List.mem_append.1 hm with hm | hm
    · exact hc.holds h hm
    · exact h.loc w w' (fun b hb => hc.old.block b (hs.supp h (List.mem_append_right _ hm) b hb).1 (hfree h hm b hb)) (hs.holds h (List.mem_append_right _ hm))
  · have hz := hs.old.size
    have hz' := hc.old.size
    rcases List.mem_append.1 hm with hm | hm
    · have h1 := hc.supp h hm b hb
      refine ⟨h1.1, ?_⟩
      rcases h1.2 with h2 | h2
      · exact .inl (by omega)
      · by_cases hlt : b < w.heap.size
        · obtain ⟨k, hkm, hkb⟩ := hk b h2 hlt
          exact (hs.supp k (List.mem_append_left _ hkm) b hkb).2
        · exact .inl (by omega)
    · have h1 := hs.supp h (List.mem_append_right _ hm) b hb
      exact ⟨by omega, h1.2⟩
  · have h1 := hc.supp h hm b hb
    have h2 := (hs.supp r (List.mem_append_right _ hr) b rb).1
    rcases h1.2 with h3 | h3
    · omega
    · exact hfree r hr b rb h3
theorem Does.call [Flow] {f : FuncId} {xs : Array Operand} {ts : Array TypeId} {vs : Array Value} {γ : Type} {φ : γ → Prop} {V : γ → Value} {H : γ → List HL} {K R : List HL} {S' : Nat → Prop} (ho : o.op = .call { callee := .value (.func f), args := xs, argTypes := ts })
    (hv : xs.toList.map F.ev = vs.toList.map some) (hc : ∀ args w, (callFunc f args).run C.P w = .ok (.enter f args) w) (hL : HSub (K ++ R) L) (hk : ∀ b, S' b → ∃ k ∈ K, k.supp b)
    (hfn : ∀ w, Sym C.w0 C.S (K ++ R) w → Gives C.P f vs w S' φ V H) : Does C o F L φ V (fun g => H g ++ R) := fun a w ok next Q h => by
  refine ⟨fun _ _ => trivial, ?_⟩
  rw [Oper.semAt_eq _ _ _ (fun c h => by rw [ho] at h; cases h)]
  have e : xs.map a.eval = vs := by
    apply Array.ext'
    rw [Array.toList_map]
    revert hv
    generalize xs.toList = l
    generalize vs.toList = m
    induction l generalizing m with
    | nil => intro h; cases m <;> simp at h ⊢
    | cons p l ih =>
      intro h
      cases m with
      | nil => simp at h
      | cons q m =>
        simp only [List.map_cons, List.cons.injEq] at h ⊢
        exact ⟨ok.fr.ev h.1, ih m h.2⟩
  have hrun : (execOp a.eval o).run C.P w = .ok (.enter f vs) w := by
    simp only [execOp, ho, resolve, e]
    simp [Act.eval, Deferred.ofValue, invoke, hc]
  rw [hrun, Oper.uponIn_enter]
  have hsub := ok.sym.sub hL
  refine ⟨fun h => by simp [FW] at h, callsFW.2 ((hfn w hsub).mono ?_)⟩
  rintro en w' ⟨g, hφ, rfl, hs⟩
  exact h g w' hφ (hsub.handed (fun b hb _ => hk b hb) hs)
end mem
end Go.V
namespace Go.V
open Go
/-- The cells of a block from k on. -/
def CellsIn (cs : Array Value) : Nat → List Value → Prop
  | _, [] => True
  | k, v :: r => cs[k]? = some v ∧ CellsIn cs (k + 1) r
theorem CellsIn.get {cs : Array Value} : ∀ {vs : List Value} {k : Nat}, CellsIn cs k vs → ∀ j v, vs[j]? = some v → cs[k + j]? = some v
  | [], _, _, j, v, h => by simp at h
  | u :: r, k, hh, 0, v, h => by simp at h; subst h; exact hh.1
  | u :: r, k, hh, j + 1, v, h => by
    have := CellsIn.get hh.2 j v (by simpa using h)
    rwa [show k + (j + 1) = k + 1 + j by omega]
theorem cells_obj [Flow] {w : World} {b k : Nat} {cs : Array Value} {t : TypeId} {fz : Nat × Nat} {vs : List Value} (h : w.heap[b]? = some (.cells cs t fz)) (hv : CellsIn cs k vs) : Cells w ⟨b, k, none⟩ vs := fun j v hj => by
  rw [add_new]; exact cell_of_obj h (hv.get j v hj)
def nth {α : Type} : List α → Nat → Option α
  | [], _ => none
  | v :: _, 0 => some v
  | _ :: r, k + 1 => nth r k
theorem nth_eq {α : Type} : ∀ (l : List α) (k : Nat), nth l k = l[k]?
  | [], k => by simp [nth]
  | v :: r, 0 => by simp [nth]
  | v :: r, k + 1 => by simp [nth, nth_eq r k]
theorem cell_nth [Flow] {w : World} {b k : Nat} {cs : Array Value} {t : TypeId} {fz : Nat × Nat} {v : Value} (h : w.heap[b]? = some (.cells cs t fz)) (hk : nth cs.toList k = some v) : w.cell? ⟨b, k, none⟩ = some v :=
  cell_of_obj h (by rw [nth_eq] at hk; simpa using hk)
/-- The same by 'nth'. -/
def CellsAt (cs : List Value) : Nat → List Value → Prop
  | _, [] => True
  | k, v :: r => nth cs k = some v ∧ CellsAt cs (k + 1) r
theorem CellsAt.cellsIn [Flow] {cs : Array Value} : ∀ {vs : List Value} {k : Nat}, CellsAt cs.toList k vs → CellsIn cs k vs
  | [], _, _ => trivial
  | _ :: _, _, h => ⟨by have := h.1; rw [nth_eq] at this; simpa using this, CellsAt.cellsIn h.2⟩
theorem cells_nth [Flow] {w : World} {b k : Nat} {cs : Array Value} {t : TypeId} {fz : Nat × Nat} {vs : List Value} (h : w.heap[b]? = some (.cells cs t fz)) (hv : CellsAt cs.toList k vs) : Cells w ⟨b, k, none⟩ vs := cells_obj h hv.cellsIn
section loc
variable {C : Cx} {F : Fr} {L : List HL} {o : Oper}
theorem Still.fieldAddrL [Flow] {s : TypeId} {x : Operand} {k b off off' : Nat} {fs : Array Field} {f : Field} {n : Nat} (ho : o.op = .fieldAddr s x k) (hx : F.ev x = some (.pointer (some ⟨b, off, none⟩))) (hs : C.P.underlying s = some (.struct fs)) (hf : nth fs.toList k = some f)
    (hz : ∀ w, (sizeOf f.type).run C.P w = .ok (n + 1) w) (he : off + f.offset = off') : Still C o F L (.pointer (some ⟨b, off', none⟩)) := by
  have := Still.fieldAddr (L := L) ho hx hs (by rw [nth_eq] at hf; simpa using hf) hz; rw [add_new, he] at this; exact this
theorem Still.fieldAddrA [Flow] {s : TypeId} {x : Operand} {k off : Nat} {A : Addr} {fs : Array Field} {f : Field} {n : Nat} (ho : o.op = .fieldAddr s x k) (hx : F.ev x = some (.pointer (some A))) (hs : C.P.underlying s = some (.struct fs)) (hf : nth fs.toList k = some f)
    (hz : ∀ w, (sizeOf f.type).run C.P w = .ok (n + 1) w) (he : f.offset = off) : Still C o F L (.pointer (some (A.add off))) := by
  have := Still.fieldAddr (L := L) ho hx hs (by rw [nth_eq] at hf; simpa using hf) hz; rw [he] at this; exact this
theorem Still.extractN [Flow] {x : Operand} {i : Nat} {vs : Array Value} {v : Value} (ho : o.op = .extract x i) (hx : F.ev x = some (.tuple vs)) (hv : nth vs.toList i = some v) : Still C o F L v :=
  Still.extract ho hx (by rw [nth_eq] at hv; simpa using hv)
theorem Still.indexArrL [Flow] {t e : TypeId} {x ix : Operand} {b off len : Nat} {k : IntKind} {i : Int} {n : Nat} (ho : o.op = .indexAddr t x ix) (hx : F.ev x = some (.pointer (some ⟨b, off, none⟩))) (hi : F.ev ix = some (.int k i))
    (ht : C.P.underlying t = some (.array len e)) (hz : ∀ w, (sizeOf e).run C.P w = .ok n w) (hb : 0 ≤ i ∧ i < len) : Still C o F L (.pointer (some ⟨b, off + i.toNat * n, none⟩)) := by
  have := Still.indexArr (L := L) ho hx hi ht hz hb; rwa [add_new] at this
theorem Still.indexSliceO [Flow] {t e : TypeId} {x ix : Operand} {base : Option Addr} {A : Addr} {len cap : Nat} {k : IntKind} {i : Int} {n : Nat} (ho : o.op = .indexAddr t x ix) (hx : F.ev x = some (.slice base len cap)) (hi : F.ev ix = some (.int k i))
    (ht : C.P.underlying t = some (.slice e)) (hz : ∀ w, (sizeOf e).run C.P w = .ok n w) (hA : base = some A) (hb : 0 ≤ i ∧ i < len) : Still C o F L (.pointer (some (A.add (i.toNat * n)))) := by
  subst hA; exact Still.indexSlice ho hx hi ht hz hb
theorem Still.indexSliceN [Flow] {t e : TypeId} {x ix : Operand} {base : Option Addr} {A : Addr} {len cap : Nat} {k : IntKind} {m : Nat} {n : Nat} (ho : o.op = .indexAddr t x ix) (hx : F.ev x = some (.slice base len cap)) (hi : F.ev ix = some (.int k (m : Int)))
    (ht : C.P.underlying t = some (.slice e)) (hz : ∀ w, (sizeOf e).run C.P w = .ok n w) (hA : base = some A) (hb : m < len) : Still C o F L (.pointer (some (A.add (m * n)))) := by
  have := Still.indexSliceO (L := L) ho hx hi ht hz hA ⟨by omega, by omega⟩
  simpa using this
theorem Still.indexArrN [Flow] {t e : TypeId} {x ix : Operand} {A : Addr} {len : Nat} {k : IntKind} {m : Nat} {n : Nat} (ho : o.op = .indexAddr t x ix) (hx : F.ev x = some (.pointer (some A))) (hi : F.ev ix = some (.int k (m : Int)))
    (ht : C.P.underlying t = some (.array len e)) (hz : ∀ w, (sizeOf e).run C.P w = .ok n w) (hb : m < len) : Still C o F L (.pointer (some (A.add (m * n)))) := by
  have := Still.indexArr (L := L) ho hx hi ht hz ⟨by omega, by omega⟩
  simpa using this
theorem Still.indexArrNL [Flow] {t e : TypeId} {x ix : Operand} {b off len : Nat} {k : IntKind} {m : Nat} {n : Nat} (ho : o.op = .indexAddr t x ix) (hx : F.ev x = some (.pointer (some ⟨b, off, none⟩))) (hi : F.ev ix = some (.int k (m : Int)))
    (ht : C.P.underlying t = some (.array len e)) (hz : ∀ w, (sizeOf e).run C.P w = .ok n w) (hb : m < len) : Still C o F L (.pointer (some ⟨b, off + m * n, none⟩)) := by
  have := Still.indexArrL (L := L) ho hx hi ht hz ⟨by omega, by omega⟩
  simpa using this
theorem Still.indexSliceE [Flow] {t e : TypeId} {x ix : Operand} {base : Option Addr} {A : Addr} {len cap : Nat} {k : IntKind} {i : Int} (m : Nat) {n : Nat} (ho : o.op = .indexAddr t x ix) (hx : F.ev x = some (.slice base len cap)) (hi : F.ev ix = some (.int k i))
    (ht : C.P.underlying t = some (.slice e)) (hz : ∀ w, (sizeOf e).run C.P w = .ok n w) (hA : base = some A) (hm : i = (m : Int)) (hb : m < len) : Still C o F L (.pointer (some (A.add (m * n)))) := by
  subst hm; exact Still.indexSliceN ho hx hi ht hz hA hb
theorem Still.indexArrE [Flow] {t e : TypeId} {x ix : Operand} {A : Addr} {len : Nat} {k : IntKind} {i : Int} (m : Nat) {n : Nat} (ho : o.op = .indexAddr t x ix) (hx : F.ev x = some (.pointer (some A))) (hi : F.ev ix = some (.int k i))
    (ht : C.P.underlying t = some (.array len e)) (hz : ∀ w, (sizeOf e).run C.P w = .ok n w) (hm : i = (m : Int)) (hb : m < len) : Still C o F L (.pointer (some (A.add (m * n)))) := by
  subst hm; exact Still.indexArrN ho hx hi ht hz hb
theorem Still.indexArrEL [Flow] {t e : TypeId} {x ix : Operand} {b off len : Nat} {k : IntKind} {i : Int} (m : Nat) {n : Nat} (ho : o.op = .indexAddr t x ix) (hx : F.ev x = some (.pointer (some ⟨b, off, none⟩))) (hi : F.ev ix = some (.int k i))
    (ht : C.P.underlying t = some (.array len e)) (hz : ∀ w, (sizeOf e).run C.P w = .ok n w) (hm : i = (m : Int)) (hb : m < len) : Still C o F L (.pointer (some ⟨b, off + m * n, none⟩)) := by
  subst hm; exact Still.indexArrNL ho hx hi ht hz hb
theorem Sym.base0 [Flow] {w0 w : World} {L : List HL} (hs : Sym w0 Nil L w) {a : Addr} {v : Value} (hc : w0.cell? a = some v) : w.cell? a = some v := hs.base hc (fun x => x)
theorem Cells.base0 [Flow] {w0 w : World} {L : List HL} {A : Addr} {vs : List Value} (hc : Cells w0 A vs) (hs : Sym w0 Nil L w) : Cells w A vs := fun j v hj => hs.base0 (hc j v hj)
theorem Fr.get_append (c k : Fr) (t : Nat) : Fr.get (c ++ k) t = (Fr.get c t).or (Fr.get k t) := by
  induction c with
  | nil => simp [Fr.get]
  | cons p r ih =>
    obtain ⟨s, v⟩ := p
    simp only [List.cons_append, Fr.get_cons, ih]
    split <;> simp
theorem Fr.Sub.app [Flow] {c k F : Fr} (h1 : c.Sub F) (h2 : k.Sub F) : Fr.Sub (c ++ k) F := fun t v h => by
  rw [Fr.get_append] at h
  cases hc : Fr.get c t with
  | some u => rw [hc] at h; simp at h; subst h; exact h1 t u hc
  | none => rw [hc] at h; simp at h; exact h2 t v h
/-- A loop: what is kept (of the frame, of the heaplets), what changes. -/
theorem RunC.loop2 [Flow] {c : Code} {Q : Exit → Act → World → Prop} {γ : Type} {keep : Fr} {hkeep : List HL} (I : γ → Prop) (μ : γ → Nat) (chg : γ → Fr) (hchg : γ → List HL) (g0 : γ) (h0 : I g0) (hF : (chg g0).Sub F) (hk : keep.Sub F) (hL : HSub (hchg g0 ++ hkeep) L)
    (round : ∀ g, I g → RunC C c (Exit.then (Again C I μ (fun g => chg g ++ keep) (fun g => hchg g ++ hkeep) (μ g)) Q) (chg g ++ keep) (hchg g ++ hkeep)) : RunC C (.loop c) Q F L :=
  RunC.loop I μ (fun g => chg g ++ keep) (fun g => hchg g ++ hkeep) g0 h0 (hF.app hk) hL round
end loc
end Go.V
namespace Go.V
open Go
section builds
variable {C : Cx} {F : Fr} {L : List HL} {o : Oper}
theorem Still.build_1 [Flow] {t : TypeId} {i0 : Nat} {a0 : Operand} {x0_0 : Value} (g : Value → Value) (ho : o.op = .build t #[(i0, a0)]) (h0 : F.ev a0 = some x0_0) (hr : ∀ w, (Instr.build t #[(i0, x0_0)]).run C.P w = .ok (g x0_0) w) : Still C o F L (g x0_0) :=
  Still.build (vs := #[(i0, x0_0)]) ho (by simp only [List.map_cons, List.map_nil, h0]) hr

theorem Still.build_1_1 [Flow] {t : TypeId} {i0 i1 : Nat} {a0 a1 : Operand} {x0_0 x1_0 : Value} (g : Value → Value → Value) (ho : o.op = .build t #[(i0, a0), (i1, a1)]) (h0 : F.ev a0 = some x0_0) (h1 : F.ev a1 = some x1_0) (hr : ∀ w, (Instr.build t #[(i0, x0_0), (i1, x1_0)]).run C.P w = .ok (g x0_0 x1_0) w) : Still C o F L (g x0_0 x1_0) :=
  Still.build (vs := #[(i0, x0_0), (i1, x1_0)]) ho (by simp only [List.map_cons, List.map_nil, h0, h1]) hr

theorem Still.build_1_1_1 [Flow] {t : TypeId} {i0 i1 i2 : Nat} {a0 a1 a2 : Operand} {x0_0 x1_0 x2_0 : Value} (g : Value → Value → Value → Value) (ho : o.op = .build t #[(i0, a0), (i1, a1), (i2, a2)]) (h0 : F.ev a0 = some x0_0) (h1 : F.ev a1 = some x1_0) (h2 : F.ev a2 = some x2_0) (hr : ∀ w, (Instr.build t #[(i0, x0_0), (i1, x1_0), (i2, x2_0)]).run C.P w = .ok (g x0_0 x1_0 x2_0) w) : Still C o F L (g x0_0 x1_0 x2_0) :=
  Still.build (vs := #[(i0, x0_0), (i1, x1_0), (i2, x2_0)]) ho (by simp only [List.map_cons, List.map_nil, h0, h1, h2]) hr

theorem Still.build_1_1_1_1 [Flow] {t : TypeId} {i0 i1 i2 i3 : Nat} {a0 a1 a2 a3 : Operand} {x0_0 x1_0 x2_0 x3_0 : Value} (g : Value → Value → Value → Value → Value) (ho : o.op = .build t #[(i0, a0), (i1, a1), (i2, a2), (i3, a3)]) (h0 : F.ev a0 = some x0_0) (h1 : F.ev a1 = some x1_0) (h2 : F.ev a2 = some x2_0) (h3 : F.ev a3 = some x3_0) (hr : ∀ w, (Instr.build t #[(i0, x0_0), (i1, x1_0), (i2, x2_0), (i3, x3_0)]).run C.P w = .ok (g x0_0 x1_0 x2_0 x3_0) w) : Still C o F L (g x0_0 x1_0 x2_0 x3_0) :=
  Still.build (vs := #[(i0, x0_0), (i1, x1_0), (i2, x2_0), (i3, x3_0)]) ho (by simp only [List.map_cons, List.map_nil, h0, h1, h2, h3]) hr

theorem Still.build_2_2 [Flow] {t : TypeId} {i0 i1 : Nat} {a0 a1 : Operand} {x0_0 x0_1 x1_0 x1_1 : Value} (g : Value → Value → Value → Value → Value) (ho : o.op = .build t #[(i0, a0), (i1, a1)]) (h0 : F.ev a0 = some (.agg #[x0_0, x0_1])) (h1 : F.ev a1 = some (.agg #[x1_0, x1_1])) (hr : ∀ w, (Instr.build t #[(i0, (.agg #[x0_0, x0_1])), (i1, (.agg #[x1_0, x1_1]))]).run C.P w = .ok (g x0_0 x0_1 x1_0 x1_1) w) : Still C o F L (g x0_0 x0_1 x1_0 x1_1) :=
  Still.build (vs := #[(i0, (.agg #[x0_0, x0_1])), (i1, (.agg #[x1_0, x1_1]))]) ho (by simp only [List.map_cons, List.map_nil, h0, h1]) hr

theorem Still.build_4_1 [Flow] {t : TypeId} {i0 i1 : Nat} {a0 a1 : Operand} {x0_0 x0_1 x0_2 x0_3 x1_0 : Value} (g : Value → Value → Value → Value → Value → Value) (ho : o.op = .build t #[(i0, a0), (i1, a1)]) (h0 : F.ev a0 = some (.agg #[x0_0, x0_1, x0_2, x0_3])) (h1 : F.ev a1 = some x1_0) (hr : ∀ w, (Instr.build t #[(i0, (.agg #[x0_0, x0_1, x0_2, x0_3])), (i1, x1_0)]).run C.P w = .ok (g x0_0 x0_1 x0_2 x0_3 x1_0) w) : Still C o F L (g x0_0 x0_1 x0_2 x0_3 x1_0) :=
  Still.build (vs := #[(i0, (.agg #[x0_0, x0_1, x0_2, x0_3])), (i1, x1_0)]) ho (by simp only [List.map_cons, List.map_nil, h0, h1]) hr

theorem Still.build_2_1 [Flow] {t : TypeId} {i0 i1 : Nat} {a0 a1 : Operand} {x0_0 x0_1 x1_0 : Value} (g : Value → Value → Value → Value) (ho : o.op = .build t #[(i0, a0), (i1, a1)]) (h0 : F.ev a0 = some (.agg #[x0_0, x0_1])) (h1 : F.ev a1 = some x1_0) (hr : ∀ w, (Instr.build t #[(i0, (.agg #[x0_0, x0_1])), (i1, x1_0)]).run C.P w = .ok (g x0_0 x0_1 x1_0) w) : Still C o F L (g x0_0 x0_1 x1_0) :=
  Still.build (vs := #[(i0, (.agg #[x0_0, x0_1])), (i1, x1_0)]) ho (by simp only [List.map_cons, List.map_nil, h0, h1]) hr

end builds
end Go.V
/- The proof layer, part e: regions that draw their order. Operations that only look are taken as early as they may; what makes memory is taken when nothing else is ready; the tail comes in the order of the text. -/
namespace Go.V
open Go
def NoQ : Exit → Act → World → Prop := fun _ _ _ => False
section draw
variable {r : Option Nat} {P : Program} {ops : Array Oper} {md : Region.Mode}
/-- 'a'' is 'a' but for one slot (and deferred calls). -/
def But (a a' : Act) (dst : Option Tmp) : Prop := ∃ D u, a' = Act.put { a with defers := D } dst u
/-- In this world and in every later one the operation yields v, or it is not wanted. -/
def Yields' [Flow] (P : Program) (ops : Array Oper) (o : Oper) (v : Value) (a : Act) (w : World) : Prop :=
  (Region.wanted o (yielded ops a.tmps) = true ∧ ∀ w', Old Nil w w' → (execOp a.eval o).run P w' = .ok (.value v) w') ∨ (Region.wanted o (yielded ops a.tmps) = false ∧ v = undef)
theorem Yields'.later [Flow] {o : Oper} {v : Value} {a : Act} {w w' : World} (h : Yields' P ops o v a w) (ho : Old Nil w w') : Yields' P ops o v a w' := by
  rcases h with ⟨h1, h2⟩ | h
  · exact .inl ⟨h1, fun w2 h3 => h2 w2 (ho.trans h3)⟩
  · exact .inr h
theorem Yields'.but [Flow] {o : Oper} {v : Value} {a a' : Act} {w : World} {dst : Option Tmp} (h : Yields' P ops o v a w) (hs : ∀ cs b, o.op ≠ .select cs b) (hb : But a a' dst) (hd : ∀ d, dst = some d → d ∉ o.looksAt ops) : Yields' P ops o v a' w := by
  obtain ⟨D, u, rfl⟩ := hb
  have e1 : execOp (Act.put { a with defers := D } dst u).eval o = execOp a.eval o := (execOp_put o hs { a with defers := D } dst u hd).trans rfl
  have e2 : Region.wanted o (yielded ops (Act.put { a with defers := D } dst u).tmps) = Region.wanted o (yielded ops a.tmps) := (wanted_put o { a with defers := D } dst u hd).trans rfl
  unfold Yields' at *
  rw [e1, e2]
  exact h
theorem Yields'.opIn [Flow] {i : Nat} {o : Oper} {v : Value} {a : Act} {w : World} {Q : Exit → Act → World → Prop} (hi : ops[i]? = some o) (hd : ∀ c, o.op ≠ .defer c) (h : Yields' P ops o v a w) {K : Act → World → Prop} (hk : K (a.put o.dst v) w) : wpOpIn (FW r) 0 P ops Q i K a w := by
  unfold wpOpIn
  simp only [hi]
  rcases h with ⟨h1, h2⟩ | ⟨h1, rfl⟩
  · simp only [h1, if_true]
    refine ⟨fun _ _ => trivial, ?_⟩
    rw [Oper.semAt_eq _ _ _ hd, h2 w (Old.refl _ w)]
    exact hk
  · simp only [h1, Bool.false_eq_true, if_false]
    exact ⟨fun _ _ => trivial, hk⟩
theorem opIn_put {j : Nat} {oi oj : Oper} {v : Value} {K : Act → World → Prop} {a : Act} {w : World} (hj : ops[j]? = some oj) (hap : oi.apart ops oj = true) (hsj : ∀ cs b, oj.op ≠ .select cs b) (hdj : ∀ c, oj.op ≠ .defer c)
    (h : wpOpIn (FW r) 0 P ops NoQ j K (a.put oi.dst v) w) : wpOpIn (FW r) 0 P ops NoQ j (fun a' w' => But a a' oj.dst ∧ K (a'.put oi.dst v) w') a w := by
  obtain ⟨h1, h2, h3⟩ := Oper.apart_spec hap
  have com : ∀ (a : Act) u, (a.put oi.dst v).put oj.dst u = (a.put oj.dst u).put oi.dst v := fun a u => Act.put_comm a v u h2
  have but : ∀ u, But a (a.put oj.dst u) oj.dst := fun u => ⟨a.defers, u, rfl⟩
  unfold wpOpIn at *
  simp only [hj] at *
  rw [wanted_put oj a oi.dst v h1] at h
  split
  · rename_i hw
    simp only [hw, if_true] at h
    obtain ⟨_, h⟩ := h
    refine ⟨fun _ _ => trivial, ?_⟩
    rw [Oper.semAt_eq _ _ _ hdj] at h ⊢
    rw [execOp_put oj hsj a oi.dst v h1] at h
    generalize (execOp a.eval oj).run P w = res at *
    cases res with
    | ok n w' =>
      cases n <;> simp only [Oper.uponIn] at h ⊢
      case value u => exact ⟨but u, by rw [← com]; exact h⟩
      case skip => exact ⟨but undef, by rw [← com]; exact h⟩
      case defer d =>
        refine ⟨⟨d :: a.defers, undef, rfl⟩, ?_⟩
        rw [Act.put_defers] at h
        rw [← com]; exact h
      case enter f args =>
        exact ⟨h.1, CallsIn.mono h.2 fun e w'' he => by
          cases e with
          | returned u => exact ⟨but u, by rw [← com]; exact he⟩
          | panicked c => exact he
          | outgrown => exact he⟩
      case row row args => exact ⟨h.1, RowsIn.mono h.2 fun u w'' he => ⟨but u, by rw [← com]; exact he⟩⟩
      case round l f tmps asg body =>
        exact ⟨h.1, RoundIn.mono h.2 fun e w'' he => by
          cases e with
          | returned u => exact ⟨but u, by rw [← com]; exact he⟩
          | panicked c => exact he
          | outgrown => exact he⟩
    | halt x w' => cases x <;> simp only [Oper.uponIn] at h ⊢ <;> exact h
  · rename_i hw
    simp only [hw] at h
    exact ⟨fun _ _ => trivial, but undef, by rw [← com]; exact h.2⟩
/-- The head of the region, in whatever order; 'E': what is asked where it is done. -/
def wpHead [Flow] (r : Option Nat) (P : Program) (md : Region.Mode) (ops : Array Oper) (n : Nat) (E : Array Bool → Act → World → Prop) : Nat → Array Bool → Act → World → Prop
  | 0, listed, a, w => E listed a w
  | f + 1, listed, a, w => Region.ready md ops listed ≠ [] ∧ ∀ i ∈ Region.ready md ops listed, i < n ∧ wpOpIn (FW r) 0 P ops NoQ i (fun a' w' => Old Nil w w' ∧ wpHead r P md ops n E f (listed.setIfInBounds i true) a' w') a w
theorem opIn_Q {i : Nat} {K : Act → World → Prop} {Q : Exit → Act → World → Prop} {a : Act} {w : World} (h : wpOpIn (FW r) 0 P ops NoQ i K a w) : wpOpIn (FW r) 0 P ops Q i K a w := by
  unfold wpOpIn at *
  split
  · simpa [*] using h
  · rename_i o ho
    simp only [ho] at h
    split
    · rename_i hw
      simp only [hw, if_true] at h
      refine ⟨h.1, ?_⟩
      have h := h.2
      generalize (o.semAt (FW r).round a.eval).run P w = res at *
      cases res with
      | ok n w' =>
        cases n <;> simp only [Oper.uponIn] at h ⊢ <;>
          first
            | exact h
            | exact ⟨h.1, CallsIn.mono h.2 fun e w'' he => by cases e <;> first | exact he | exact absurd he (by simp [NoQ, LetsOut])⟩
            | exact ⟨h.1, RoundIn.mono h.2 fun e w'' he => by cases e <;> first | exact he | exact absurd he (by simp [NoQ, LetsOut])⟩
      | halt x w' => cases x <;> simp only [Oper.uponIn] at h ⊢ <;> first | exact h | exact h.elim
    · rename_i hw
      simp only [hw] at h
      exact h
theorem wpAny_of_head' [Flow] {n g : Nat} {E : Array Bool → Act → World → Prop} {Q : Exit → Act → World → Prop} (hE : ∀ listed a w, E listed a w → wpAnyIn (FW r) 0 P md ops Q g listed a w) :
    ∀ (f : Nat) (listed : Array Bool) (a : Act) (w : World), wpHead r P md ops n E f listed a w → wpAnyIn (FW r) 0 P md ops Q (f + g) listed a w
  | 0, listed, a, w, h => by rw [Nat.zero_add]; exact hE _ _ _ h
  | f + 1, listed, a, w, h => by
    rw [show f + 1 + g = (f + g) + 1 by omega]
    exact ⟨fun h0 => absurd h0 h.1, fun i hi => opIn_Q (wpOpIn_mono (fun a' w' h' => wpAny_of_head' hE f _ a' w' h'.2) (h.2 i hi).2)⟩
def noDefer (ops : Array Oper) : Bool := ops.all fun o => match o.op with | .defer .. => false | _ => true
theorem noDefer_spec (h : noDefer ops = true) (j : Nat) (o : Oper) (c : Call) (ho : ops[j]? = some o) : o.op ≠ .defer c := by
  intro heq
  have := Array.all_eq_true_iff_forall_mem.1 h o (Array.mem_of_getElem? ho)
  simp [heq] at this
theorem wpHead_first [Flow] {n i : Nat} {oi : Oper} {v : Value} {E : Array Bool → Act → World → Prop} (hi : ops[i]? = some oi) (hsel : Region.noSelect ops = true) (hdef : noDefer ops = true)
    (hs : Region.sinkB md ops n = true) (hc : Region.chainB md ops n = true) (hn : n < ops.size) (hin : i < n)
    (hdone : ∀ listed a w, E listed a w → ∀ j ∈ Region.ready md ops listed, n ≤ j) :
    ∀ (f : Nat) (listed : Array Bool) (a : Act) (w : World), HeadInv md ops n listed →
      (∀ j oj, ops[j]? = some oj → j ≠ i → listed.getD j true = false → (∀ e ∈ oj.after, Region.binds md e = true → e.on ≠ i) → oi.apart ops oj = true) →
      i ∈ Region.ready md ops listed → Yields' P ops oi v a w →
      wpHead r P md ops n E f (listed.setIfInBounds i true) (a.put oi.dst v) w → wpHead r P md ops n E (f + 1) listed a w := by
  intro f
  induction f with
  | zero =>
    intro listed a w inv _ hr hy H
    have hun := (mem_ready.1 hr).1
    refine ⟨fun h => (by rw [h] at hr; cases hr), fun j hj => ?_⟩
    have hjn : j < n := by
      rcases Nat.lt_or_ge j n with h | h
      · exact h
      · exact absurd hj (tail_waits hs hc hn inv _ i rfl hin hun j h)
    refine ⟨hjn, ?_⟩
    by_cases hji : j = i
    · subst hji; exact hy.opIn hi (fun c => noDefer_spec hdef j oi c hi) ⟨Old.refl _ w, H⟩
    · have := hdone _ _ _ H j (ready_mono hj hji)
      omega
  | succ f ih =>
    intro listed a w inv hfree hr hy H
    have hun := (mem_ready.1 hr).1
    refine ⟨fun h => (by rw [h] at hr; cases hr), fun j hj => ?_⟩
    have hjn : j < n := by
      rcases Nat.lt_or_ge j n with h | h
      · exact h
      · exact absurd hj (tail_waits hs hc hn inv _ i rfl hin hun j h)
    refine ⟨hjn, ?_⟩
    by_cases hji : j = i
    · subst hji; exact hy.opIn hi (fun c => noDefer_spec hdef j oi c hi) ⟨Old.refl _ w, H⟩
    · have h1 := (H.2 j (ready_mono hj hji)).2
      obtain ⟨hjun, oj, hoj, hall⟩ := mem_ready.1 hj
      have hnot : ∀ e ∈ oj.after, Region.binds md e = true → e.on ≠ i := fun e he hb heq => by
        have h1 := hall e he hb
        rw [heq, getD_both hun] at h1
        cases h1
      have hap := hfree j oj hoj hji hjun hnot
      have h2 := opIn_put hoj hap (fun cs b => Region.noSelect_spec hsel j oj cs b hoj) (fun c => noDefer_spec hdef j oj c hoj) h1
      have hfree' : ∀ k ok, ops[k]? = some ok → k ≠ i → (listed.setIfInBounds j true).getD k true = false →
          (∀ e ∈ ok.after, Region.binds md e = true → e.on ≠ i) → oi.apart ops ok = true := fun k ok hk hki hun hno => by
        refine hfree k ok hk hki ?_ hno
        by_cases hjk : j = k
        · subst hjk; exact hjun
        · rw [getD_set_ne true hjk] at hun; exact hun
      refine wpOpIn_mono (fun a' w' h3 => ⟨h3.2.1, ?_⟩) h2
      refine ih (listed.setIfInBounds j true) a' w' (inv.set hj hjn) hfree' (ready_mono hr (Ne.symm hji)) ((hy.but (fun cs b => Region.noSelect_spec hsel i oi cs b hi) h3.1 (Oper.apart_spec hap).2.2).later h3.2.1) ?_
      rw [Array.setIfInBounds_comm _ _ hji]
      exact h3.2.2
/-- A way through the head: what only looks; what makes memory, alone ready; two or three such that are ready together. -/
inductive Plan where
  | done
  | still (i : Nat) (p : Plan)
  | one (i : Nat) (p : Plan)
  | two (i : Nat) (p : Plan) (j : Nat) (q : Plan)
  | three (i : Nat) (p : Plan) (j : Nat) (q : Plan) (k : Nat) (s : Plan)
def Plan.len : Plan → Nat
  | .done => 0
  | .still _ p => p.len + 1
  | .one _ p => p.len + 1
  | .two _ p _ _ => p.len + 1
  | .three _ p _ _ _ _ => p.len + 1
def GoesOn [Flow] (r : Option Nat) (P : Program) (ops : Array Oper) (T : Act → World → Prop) : Plan → Act → World → Prop
  | .done, a, w => T a w
  | .still i p, a, w => ∃ o v, ops[i]? = some o ∧ Yields' P ops o v a w ∧ GoesOn r P ops T p (a.put o.dst v) w
  | .one i p, a, w => wpOpIn (FW r) 0 P ops NoQ i (fun a' w' => Old Nil w w' ∧ GoesOn r P ops T p a' w') a w
  | .two i p j q, a, w => wpOpIn (FW r) 0 P ops NoQ i (fun a' w' => Old Nil w w' ∧ GoesOn r P ops T p a' w') a w ∧ wpOpIn (FW r) 0 P ops NoQ j (fun a' w' => Old Nil w w' ∧ GoesOn r P ops T q a' w') a w
  | .three i p j q k s, a, w => wpOpIn (FW r) 0 P ops NoQ i (fun a' w' => Old Nil w w' ∧ GoesOn r P ops T p a' w') a w ∧ wpOpIn (FW r) 0 P ops NoQ j (fun a' w' => Old Nil w w' ∧ GoesOn r P ops T q a' w') a w ∧ wpOpIn (FW r) 0 P ops NoQ k (fun a' w' => Old Nil w w' ∧ GoesOn r P ops T s a' w') a w
def lexG (md : Region.Mode) (ops : Array Oper) (n g : Nat) : Plan → Array Bool → Bool
  | .done, listed => Region.seqB md ops g n listed
  | .still k π, listed => (Region.ready md ops listed).contains k && Region.free md ops listed k && Nat.blt k n && lexG md ops n g π (listed.setIfInBounds k true)
  | .one k π, listed => decide (Region.ready md ops listed = [k]) && Nat.blt k n && lexG md ops n g π (listed.setIfInBounds k true)
  | .two i p j q, listed => decide (Region.ready md ops listed = [i, j]) && Nat.blt i n && Nat.blt j n && Nat.beq p.len q.len && lexG md ops n g p (listed.setIfInBounds i true) && lexG md ops n g q (listed.setIfInBounds j true)
  | .three i p j q k s, listed => decide (Region.ready md ops listed = [i, j, k]) && Nat.blt i n && Nat.blt j n && Nat.blt k n && Nat.beq p.len q.len && Nat.beq p.len s.len && lexG md ops n g p (listed.setIfInBounds i true) && lexG md ops n g q (listed.setIfInBounds j true) && lexG md ops n g s (listed.setIfInBounds k true)
theorem wpHead_of_goes [Flow] {n g : Nat} {T : Act → World → Prop} (hsel : Region.noSelect ops = true) (hdef : noDefer ops = true) (hs : Region.sinkB md ops n = true) (hc : Region.chainB md ops n = true) (hn : n < ops.size) :
    ∀ (π : Plan) (listed : Array Bool) (a : Act) (w : World), HeadInv md ops n listed → lexG md ops n g π listed = true → GoesOn r P ops T π a w →
    wpHead r P md ops n (fun listed' a' w' => Region.seqB md ops g n listed' = true ∧ T a' w') π.len listed a w
  | .done, listed, a, w, _, hB, h => ⟨hB, h⟩
  | .still k π, listed, a, w, inv, hB, h => by
    simp only [lexG, Bool.and_eq_true] at hB
    obtain ⟨⟨⟨hr, hf⟩, hkn⟩, hB'⟩ := hB
    have hkn' : k < n := by simpa using hkn
    obtain ⟨o, v, ho, hy, hK⟩ := h
    have hr' : k ∈ Region.ready md ops listed := by simpa using hr
    exact wpHead_first ho hsel hdef hs hc hn hkn' (fun listed' a' w' hL => seqB_ready hL.1) π.len listed a w inv (Region.free_spec ho hf) hr' hy
      (wpHead_of_goes hsel hdef hs hc hn π _ _ _ (inv.set hr' hkn') hB' hK)
  | .one k π, listed, a, w, inv, hB, h => by
    simp only [lexG, Bool.and_eq_true, decide_eq_true_eq] at hB
    obtain ⟨⟨hr, hkn⟩, hB'⟩ := hB
    have hkn' : k < n := by simpa using hkn
    refine ⟨by rw [hr]; simp, fun i hi => ?_⟩
    rw [hr] at hi
    have hik : i = k := by simpa using hi
    subst hik
    exact ⟨hkn', wpOpIn_mono (fun a' w' h3 => ⟨h3.1, wpHead_of_goes hsel hdef hs hc hn π _ _ _ (inv.set (by rw [hr]; simp) hkn') hB' h3.2⟩) h⟩
  | .two k p l q, listed, a, w, inv, hB, h => by
    simp only [lexG, Bool.and_eq_true, decide_eq_true_eq] at hB
    obtain ⟨⟨⟨⟨⟨hr, hkn⟩, hln⟩, hlen⟩, hB1⟩, hB2⟩ := hB
    have hlen' : p.len = q.len := Nat.eq_of_beq_eq_true hlen
    have hkn' : k < n := by simpa using hkn
    have hln' : l < n := by simpa using hln
    refine ⟨by rw [hr]; simp, fun i hi => ?_⟩
    rw [hr] at hi
    have hik : i = k ∨ i = l := by simpa using hi
    rcases hik with rfl | rfl
    · exact ⟨hkn', wpOpIn_mono (fun a' w' h3 => ⟨h3.1, wpHead_of_goes hsel hdef hs hc hn p _ _ _ (inv.set (by rw [hr]; simp) hkn') hB1 h3.2⟩) h.1⟩
    · exact ⟨hln', wpOpIn_mono (fun a' w' h3 => ⟨h3.1, by
        show wpHead _ _ _ _ _ _ p.len _ _ _
        rw [hlen']; exact wpHead_of_goes hsel hdef hs hc hn q _ _ _ (inv.set (by rw [hr]; simp) hln') hB2 h3.2⟩) h.2⟩
  | .three k p l q m s, listed, a, w, inv, hB, h => by
    simp only [lexG, Bool.and_eq_true, decide_eq_true_eq] at hB
    obtain ⟨⟨⟨⟨⟨⟨⟨⟨hr, hkn⟩, hln⟩, hmn⟩, hlen⟩, hlen2⟩, hB1⟩, hB2⟩, hB3⟩ := hB
    have hlen' : p.len = q.len := Nat.eq_of_beq_eq_true hlen
    have hlen2' : p.len = s.len := Nat.eq_of_beq_eq_true hlen2
    have hkn' : k < n := by simpa using hkn
    have hln' : l < n := by simpa using hln
    have hmn' : m < n := by simpa using hmn
    refine ⟨by rw [hr]; simp, fun i hi => ?_⟩
    rw [hr] at hi
    have hik : i = k ∨ i = l ∨ i = m := by simpa using hi
    rcases hik with rfl | rfl | rfl
    · exact ⟨hkn', wpOpIn_mono (fun a' w' h3 => ⟨h3.1, wpHead_of_goes hsel hdef hs hc hn p _ _ _ (inv.set (by rw [hr]; simp) hkn') hB1 h3.2⟩) h.1⟩
    · exact ⟨hln', wpOpIn_mono (fun a' w' h3 => ⟨h3.1, by
        show wpHead _ _ _ _ _ _ p.len _ _ _
        rw [hlen']; exact wpHead_of_goes hsel hdef hs hc hn q _ _ _ (inv.set (by rw [hr]; simp) hln') hB2 h3.2⟩) h.2.1⟩
    · exact ⟨hmn', wpOpIn_mono (fun a' w' h3 => ⟨h3.1, by
        show wpHead _ _ _ _ _ _ p.len _ _ _
        rw [hlen2']; exact wpHead_of_goes hsel hdef hs hc hn s _ _ _ (inv.set (by rw [hr]; simp) hmn') hB3 h3.2⟩) h.2.2⟩
theorem wpAny_of_seq' {Q : Exit → Act → World → Prop} : ∀ (l : List Oper) (k : Nat) (listed : Array Bool) (a : Act) (w : World), (∀ j, l[j]? = ops[k + j]?) →
    Region.seqB md ops l.length k listed = true → wpListIn (FW r) 0 P ops Q l a w → wpAnyIn (FW r) 0 P md ops Q l.length listed a w
  | [], k, listed, a, w, _, hB, h => ⟨by simpa [Region.seqB] using hB, h⟩
  | o :: l, k, listed, a, w, hl, hB, h => by
    have h0 : ops[k]? = some o := by simpa using (hl 0).symm
    simp only [List.length_cons, Region.seqB, Bool.and_eq_true, decide_eq_true_eq] at hB
    refine ⟨fun h1 => (by rw [hB.1] at h1; cases h1), fun i hi => ?_⟩
    rw [hB.1] at hi
    have hik : i = k := by simpa using hi
    subst hik
    have hw : wpOpIn (FW r) 0 P ops Q i (wpListIn (FW r) 0 P ops Q l) a w := by unfold wpOpIn; simp only [h0]; exact h
    exact wpOpIn_mono (fun a' w' h' => wpAny_of_seq' l (i + 1) _ a' w' (fun j => by have := hl (j + 1); simpa [Nat.add_assoc, Nat.add_comm 1 j] using this) hB.2 h') hw
/-- All checks of a region with a head of n operations, taken in the order π. -/
def drawB (ops : Array Oper) (n : Nat) (π : Plan) : Bool :=
  Region.noSelect ops && noDefer ops && Nat.blt n ops.size && Region.sinkB .any ops n && Region.chainB .any ops n && Nat.beq π.len n && lexG .any ops n (ops.size - n) π (Array.replicate ops.size false)
theorem wpIn_draw [Flow] {id : Nat} {Q : Exit → Act → World → Prop} {a : Act} {w : World} {l : List Oper} (n : Nat) (π : Plan) (hm : P.follows .mixedOrders = true) (hB : drawB l.toArray n π = true)
    (h : GoesOn r P l.toArray (fun a' w' => wpListIn (FW r) 0 P l.toArray Q (l.drop n) a' w') π a w.drew) : (Code.region id l.toArray true).wpIn (FW r) 0 P Q a w := by
  simp only [drawB, Bool.and_eq_true] at hB
  obtain ⟨⟨⟨⟨⟨⟨hsel, hdef⟩, hn⟩, hs⟩, hc⟩, hlen⟩, hlex⟩ := hB
  have hn' : n < l.length := by simpa using hn
  have hpl : π.len = n := Nat.eq_of_beq_eq_true hlen
  have hdl : (l.drop n).length = l.toArray.size - n := by simp
  have inv0 : HeadInv .any l.toArray n (Array.replicate l.toArray.size false) :=
    ⟨by simp, fun j oj _ hl => (by rw [getD_replicate_false] at hl; cases hl), fun t _ ht => getD_in (by simpa using ht) (getD_replicate_false _ _)⟩
  have H := wpHead_of_goes (r := r) (P := P) (md := .any) (g := l.toArray.size - n) hsel hdef hs hc (by simpa using hn') π _ a w.drew inv0 hlex h
  refine wpIn_region_any hm ?_
  have := wpAny_of_head' (Q := Q) (g := l.toArray.size - n) (fun listed a' w' hL => by
    have := wpAny_of_seq' (r := r) (P := P) (md := .any) (Q := Q) (l.drop n) n listed a' w' (fun j => by simp [List.getElem?_drop]) (by rw [hdl]; exact hL.1) hL.2
    rwa [hdl] at this) _ _ _ _ H
  rw [hpl, show n + (l.toArray.size - n) = l.toArray.size by simp; omega] at this
  exact this
end draw
def RunG [Flow] (C : Cx) (ops : Array Oper) (T : Act → World → Prop) (π : Plan) (F : Fr) (L : List HL) : Prop := ∀ a w, Ok C F L a w → GoesOn C.r C.P ops T π a w
section
variable {C : Cx} {Q : Exit → Act → World → Prop} {F : Fr} {L : List HL} {ops : Array Oper} {o : Oper} {T : Act → World → Prop} {π : Plan} {i : Nat}
theorem RunC.draw [Flow] {id : Nat} {l : List Oper} (n : Nat) (π : Plan) (hm : C.P.follows .mixedOrders = true) (hB : drawB l.toArray n π = true)
    (h : RunG C l.toArray (fun a' w' => wpListIn (FW C.r) 0 C.P l.toArray Q (l.drop n) a' w') π F L) : RunC C (.region id l.toArray true) Q F L := fun a w ok => wpIn_draw n π hm hB (h a w.drew ⟨ok.fr, ok.sym.drew⟩)
theorem RunG.done [Flow] {l : List Oper} (h : RunL C ops Q l F L) : RunG C ops (fun a' w' => wpListIn (FW C.r) 0 C.P ops Q l a' w') .done F L := h
theorem RunG.still [Flow] {d : Nat} {v : Value} (ho : ops[i]? = some o) (hw : wants ops F o = some true) (hd : o.dst = some d) (hn : Nat.blt d C.n = true) (hs : Still C o F L v) (h : RunG C ops T π ((d, v) :: F) L) : RunG C ops T (.still i π) F L := fun a w ok => by
  refine ⟨o, v, ho, .inl ⟨wants_ok ok hw, fun w' hold => hs.2 a w' ⟨ok.fr, ok.sym.grow0 hold⟩⟩, h _ w ?_⟩
  rw [hd]
  exact ⟨ok.fr.put (by simpa using hn) v, ok.sym⟩
theorem RunG.off [Flow] {d : Nat} (ho : ops[i]? = some o) (hw : wants ops F o = some false) (hd : o.dst = some d) (hn : Nat.blt d C.n = true) (h : RunG C ops T π ((d, undef) :: F) L) : RunG C ops T (.still i π) F L := fun a w ok => by
  refine ⟨o, undef, ho, .inr ⟨wants_ok ok hw, rfl⟩, h _ w ?_⟩
  rw [hd]
  exact ⟨ok.fr.put (by simpa using hn) _, ok.sym⟩
theorem RunG.grows [Flow] {d : Nat} {γ : Type} {φ : γ → Prop} {V : γ → Value} {H : γ → List HL} (ho : ops[i]? = some o) (hw : wants ops F o = some true) (hd : o.dst = some d) (hn : Nat.blt d C.n = true) (hg : Grows C o F L φ V H)
    (h : ∀ g, φ g → RunG C ops T π ((d, V g) :: F) (H g ++ L)) : RunG C ops T (.one i π) F L := fun a w ok => by
  show wpOpIn _ _ _ _ _ _ _ _ _
  unfold wpOpIn
  simp only [ho, wants_ok ok hw, if_true]
  refine hg a w ok _ _ (fun g w' hφ hold hs => ⟨hold, h g hφ _ w' ?_⟩)
  rw [hd]
  exact ⟨ok.fr.put (by simpa using hn) _, hs⟩
theorem RunG.two [Flow] {i j : Nat} {p q : Plan} (h1 : RunG C ops T (.one i p) F L) (h2 : RunG C ops T (.one j q) F L) : RunG C ops T (.two i p j q) F L := fun a w ok => ⟨h1 a w ok, h2 a w ok⟩
theorem RunG.split [Flow] {t : Nat} {b : Bool} (hb : F.get t = some (.bool b)) (h1 : b = true → RunG C ops T π ((t, .bool true) :: F) L) (h2 : b = false → RunG C ops T π ((t, .bool false) :: F) L) : RunG C ops T π F L := fun a w ok => by
  cases hbb : b
  · exact h2 hbb a w (ok.decide hb hbb)
  · exact h1 hbb a w (ok.decide hb hbb)
end
end Go.V
/- The proof layer, part f: slices that the call owns, read and written without opening them; rows of slices. -/
namespace Go.V
open Go
def vaddr : Value → Addr
  | .slice (some a) _ _ => a
  | _ => ⟨0, 0, none⟩
theorem own_addr {w : World} {e k n : Nat} {v : Value} {xs : List Value} (h : w.ownsRow 0 e k v n xs) (hn : 0 < n) :
    ∃ g cap cur, v = .slice (some ⟨g, 0, none⟩) n cap ∧ w.heap[g]? = some (.cells cur e (0, 0)) ∧ cur.size = cap * k ∧ n ≤ cap ∧ cur.toList.take (n * k) = xs := by
  rcases h.2 with ⟨_, h0⟩ | ⟨g, cap, cur, hv, _, hg, hnc, _, hcs, ht⟩
  · omega
  · exact ⟨g, cap, cur, hv, hg, hcs, hnc, ht⟩
theorem own_at [Flow] {w : World} {e k n : Nat} {v u : Value} {xs : List Value} {j : Nat} (h : w.ownsRow 0 e k v n xs) (hj : xs[j]? = some u) : w.cell? ((vaddr v).add j) = some u := by
  rcases h.2 with ⟨_, h0⟩ | ⟨g, cap, cur, hv, _, hg, hnc, _, hcs, ht⟩
  · have := h.1
    rw [h0] at this
    have hx : xs = [] := List.eq_nil_of_length_eq_zero (by simpa using this)
    rw [hx] at hj; simp at hj
  · subst hv
    show w.cell? ((⟨g, 0, none⟩ : Addr).add j) = some u
    rw [add_new, Nat.zero_add]
    refine cell_of_obj hg ?_
    rw [← ht] at hj
    rw [List.getElem?_take] at hj
    split at hj
    · simpa using hj
    · cases hj
theorem own_at2 [Flow] {w : World} {e k n : Nat} {v u : Value} {xs : List Value} {i j : Nat} (h : w.ownsRow 0 e k v n xs) (hj : xs[i + j]? = some u) : w.cell? (((vaddr v).add i).add j) = some u := by
  rw [add_add]; exact own_at h hj
theorem own_cells [Flow] {w : World} {e k n : Nat} {v : Value} {xs us : List Value} {i : Nat} (h : w.ownsRow 0 e k v n xs) (hj : ∀ j u, us[j]? = some u → xs[i + j]? = some u) : Cells w ((vaddr v).add i) us := fun j u hu => own_at2 h (hj j u hu)
theorem own_all [Flow] {w : World} {e k n : Nat} {v : Value} {xs : List Value} (h : w.ownsRow 0 e k v n xs) : Cells w (vaddr v) xs := fun _ _ hu => own_at h hu
theorem Sym.own [Flow] {w0 w : World} {S : Nat → Prop} {L : List HL} (hs : Sym w0 S L w) {i e k n : Nat} {v : Value} {xs : List Value} (hi : L[i]? = some (HL.own e k v n xs)) : w.ownsRow 0 e k v n xs := hs.at hi
section own
variable {C : Cx} {F : Fr} {L : List HL} {o : Oper}
theorem Still.lenOwn [Flow] {x : Operand} {t e k n : Nat} {v : Value} {xs : List Value} (ho : o.op = .call { callee := .builtin .len, args := #[x], argTypes := #[t] }) (hx : F.ev x = some v) (ht : C.P.underlying t = some (.slice (C.P.elem t)))
    (hown : ∀ w, Sym C.w0 C.S L w → w.ownsRow 0 e k v n xs) : Still C o F L (.int .i64 n) :=
  ⟨fun c h => (by rw [ho] at h; cases h), fun a w ok => by
    obtain ⟨d, op, ty, ps, af, g⟩ := o; subst ho
    rw [BigFrame.execOp_builtin, BigFrame.builtin_len]
    rcases (hown w ok.sym).2 with ⟨hv, h0⟩ | ⟨g, cap, cur, hv, _⟩
    · simp [ok.fr.ev hx, hv, h0, run_len_slice w _ _ _ _ _ ht, goInt]
    · simp [ok.fr.ev hx, hv, run_len_slice w _ _ _ _ _ ht, goInt]⟩
theorem Still.indexOwnI [Flow] {t e et : TypeId} {x ix : Operand} {v : Value} {xs : List Value} {n k : Nat} {kd : IntKind} {i : Int} {m : Nat} (ho : o.op = .indexAddr t x ix) (hx : F.ev x = some v) (hi : F.ev ix = some (.int kd i))
    (ht : C.P.underlying t = some (.slice et)) (hz : ∀ w, (sizeOf et).run C.P w = .ok k w) (hown : ∀ w, Sym C.w0 C.S L w → w.ownsRow 0 e k v n xs) (hm : i = (m : Int)) (hb : m < n) : Still C o F L (.pointer (some ((vaddr v).add (m * k)))) :=
  ⟨fun c h => (by rw [ho] at h; cases h), fun a w ok => by
    obtain ⟨g, cap, cur, hv, _⟩ := own_addr (hown w ok.sym) (by omega)
    subst hv; subst hm
    exact (Still.indexSliceN (L := L) ho hx hi ht hz rfl hb).2 a w ok⟩
theorem Still.indexOwn [Flow] {t e et : TypeId} {x ix : Operand} {v : Value} {xs : List Value} {n k : Nat} {kd : IntKind} {m : Nat} (ho : o.op = .indexAddr t x ix) (hx : F.ev x = some v) (hi : F.ev ix = some (.int kd (m : Int)))
    (ht : C.P.underlying t = some (.slice et)) (hz : ∀ w, (sizeOf et).run C.P w = .ok k w) (hown : ∀ w, Sym C.w0 C.S L w → w.ownsRow 0 e k v n xs) (hb : m < n) : Still C o F L (.pointer (some ((vaddr v).add (m * k)))) :=
  Still.indexOwnI ho hx hi ht hz hown rfl hb
theorem own_store [Flow] {w w' : World} {e k n : Nat} {v : Value} {xs xs' : List Value} {j : Nat} {us : List Value} (h : w.ownsRow 0 e k v n xs) (hn : j + us.length ≤ xs.length) (hx : ∀ i, xs'[i]? = if j ≤ i ∧ i < j + us.length then us[i - j]? else xs[i]?)
    (hw : ∀ cur t fz, w.heap[(vaddr v).block]? = some (.cells cur t fz) → w'.heap[(vaddr v).block]? = some (.cells (putAll cur ((vaddr v).off + j) us) t fz)) (hlen : us ≠ []) : w'.ownsRow 0 e k v n xs' := by
  have hxl : xs'.length = xs.length := by
    apply Nat.le_antisymm
    · have := hx xs.length
      rw [List.getElem?_eq_none (Nat.le_refl _)] at this
      have h2 : xs'[xs.length]? = none := by rw [this]; split <;> simp_all <;> omega
      simpa using h2
    · rcases Nat.lt_or_ge xs'.length xs.length with h1 | h1
      · exfalso
        have h2 := hx xs'.length
        rw [List.getElem?_eq_none (Nat.le_refl _)] at h2
        split at h2
        · rename_i hc
          have : xs'.length - j < us.length := by omega
          simp [List.getElem?_eq_getElem this] at h2
        · simp [List.getElem?_eq_getElem h1] at h2
      · exact h1
  have hul : 0 < us.length := by cases us <;> simp_all
  refine ⟨by rw [hxl]; exact h.1, ?_⟩
  rcases h.2 with ⟨hv, h0⟩ | ⟨g, cap, cur, hv, hg0, hg, hnc, hcm, hcs, ht⟩
  · have := h.1; rw [h0] at this; omega
  · subst hv
    refine .inr ⟨g, cap, _, rfl, hg0, hw cur e (0, 0) hg, hnc, hcm, by rw [size_putAll]; exact hcs, ?_⟩
    simp only [vaddr, Nat.zero_add]
    -- the cells behind a store, one by one
    have key : ∀ (us : List Value) (cur : Array Value) (j i : Nat), j + us.length ≤ cur.size → (putAll cur j us)[i]? = if j ≤ i ∧ i < j + us.length then us[i - j]? else cur[i]? := by
      intro us
      induction us with
      | nil => intro cur j i _; simp [putAll]; intro h1 h2; omega
      | cons u us ih =>
        intro cur j i hj
        simp only [List.length_cons] at hj
        rw [putAll, ih _ _ _ (by rw [Array.size_setIfInBounds]; omega)]
        by_cases h1 : i = j
        · subst h1
          rw [if_neg (by omega), if_pos (by simp)]
          simp [show i < cur.size by omega]
        · by_cases h2 : j + 1 ≤ i ∧ i < j + 1 + us.length
          · rw [if_pos h2, if_pos (by simp; omega)]
            rw [show i - j = (i - (j + 1)) + 1 by omega, List.getElem?_cons_succ]
          · rw [if_neg h2, if_neg (by simp; omega)]
            rw [Array.getElem?_setIfInBounds_ne (by omega)]
    have hlx : xs.length ≤ cur.size := by rw [h.1, hcs]; exact Nat.mul_le_mul_right _ hnc
    apply List.ext_getElem?
    intro i
    rw [hx i, List.getElem?_take]
    by_cases hi : i < n * k
    · rw [if_pos hi]
      have := key us cur j i (by omega)
      simp only [Array.getElem?_toList]
      rw [this]
      split
      · rfl
      · rw [← ht, List.getElem?_take, if_pos hi]; simp
    · rw [if_neg hi]
      have h1 := h.1
      rw [if_neg (by omega), List.getElem?_eq_none (by omega)]
/-- A store into an owned slice; the new contents are told. -/
theorem Does.storeOwn [Flow] {t : TypeId} {x y : Operand} {i e k n m : Nat} {v u : Value} {xs xs' : List Value} {A : Addr} {j : Nat} (ho : o.op = .store t x y) (hx : F.ev x = some (.pointer (some A))) (hA : A = (vaddr v).add j) (hy : F.ev y = some u)
    (hi : L[i]? = some (HL.own e k v n xs)) (hz : ∀ w, (sizeOf t).run C.P w = .ok m w) (hm : u.cells.size = m) (h0 : 0 < m) (h1 : u.cells.toList.all Value.oneCell' = true) (hj : j + m ≤ xs.length)
    (hxs : ∀ i, xs'[i]? = if j ≤ i ∧ i < j + m then u.cells.toList[i - j]? else xs[i]?) : Does C o F L (fun _ : Unit => True) (fun _ => undef) (fun _ => L.set i (HL.own e k v n xs')) := fun a w ok next Q h => by
  have hown : w.ownsRow 0 e k v n xs := ok.sym.at hi
  have hn : 0 < n := by
    rcases Nat.eq_zero_or_pos n with h2 | h2
    · have := hown.1; rw [h2] at this; omega
    · exact h2
  obtain ⟨g, cap, cur, hv, hg, hcs, hnc, htk⟩ := own_addr hown hn
  have hlx : xs.length ≤ cur.size := by rw [hown.1, hcs]; exact Nat.mul_le_mul_right _ hnc
  have hAg : A = ⟨g, j, none⟩ := by rw [hA, hv]; show (⟨g, 0, none⟩ : Addr).add j = _; rw [add_new, Nat.zero_add]
  have hul : u.cells.toList.length = m := by simpa using hm
  obtain ⟨w', hr, hh, hold, hsz⟩ := run_storeCells_own (P := C.P) u.cells.toList 0 j cur w hg (by rw [hul]; omega) (List.all_eq_true.1 h1)
  simp only [Nat.add_zero] at hh
  refine wpIn_skip' (fun c h => (by rw [ho] at h; cases h)) (w' := w') ?_ (h () w' trivial ?_)
  · simp only [execOp, ho, ok.fr.ev hx, ok.fr.ev hy, hAg]
    simp [Instr.storeAt, Instr.sureAddr, storeVar, hm, hz, hr]
  · have hvb : v.ownBlock = some g := by rw [hv]; rfl
    refine ok.sym.turn hi (fun c hc => ⟨.inl hc, ?_⟩) (hold.mono (fun c _ hc => by subst hc; exact hvb)) ?_
    · have e1 : some c = some g := (show v.ownBlock = some c from hc).symm.trans hvb
      cases e1; rw [hsz]; exact (hown.lt g hvb).2
    · refine own_store (us := u.cells.toList) hown (by rw [hul]; exact hj) (by rw [hul]; exact hxs) ?_ (by intro h2; rw [h2] at hul; simp at hul; omega)
      intro cur' t' fz' hc'
      rw [hv] at hc' ⊢
      simp only [vaddr] at hc' ⊢
      rw [hg] at hc'; cases hc'
      simpa using hh
theorem set_get {xs : List Value} {j : Nat} {u : Value} (hj : j < xs.length) : ∀ i, (xs.set j u)[i]? = if j ≤ i ∧ i < j + 1 then [u][i - j]? else xs[i]? := fun i => by
  rw [List.getElem?_set]
  by_cases h : j = i
  · subst h; simp [hj]
  · rw [if_neg h, if_neg (by omega)]
/-- One cell. -/
theorem Does.storeOwn1 [Flow] {t : TypeId} {x y : Operand} {i e k n : Nat} {v u : Value} {xs xs' : List Value} {A : Addr} {j : Nat} (ho : o.op = .store t x y) (hx : F.ev x = some (.pointer (some A))) (hA : A = (vaddr v).add j) (hy : F.ev y = some u)
    (hi : L[i]? = some (HL.own e k v n xs)) (hz : ∀ w, (sizeOf t).run C.P w = .ok 1 w) (h1 : u.oneCell' = true) (hj : j < xs.length) (hxs : xs.set j u = xs') : Does C o F L (fun _ : Unit => True) (fun _ => undef) (fun _ => L.set i (HL.own e k v n xs')) := by
  have hc : u.cells = #[u] := by cases u <;> first | rfl | cases h1
  refine Does.storeOwn ho hx hA hy hi hz (by simp [hc]) (by omega) (by simp [hc, h1]) (by omega) ?_
  rw [hc, ← hxs]; exact set_get hj
/-- make: owned from the first. -/
theorem Sym.obj_own [Flow] {w0 w : World} {S : Nat → Prop} {L : List HL} {b e n k : Nat} {cs : Array Value} (hs : Sym w0 S (HL.obj b (.cells cs e (0, 0)) :: L) w) (hc : cs.size = n * k) (hm : n ≤ 9223372036854775807) : Sym w0 S (HL.own e k (.slice (some ⟨b, 0, none⟩) n n) n cs.toList :: L) w :=
  hs.weaken (fun h => own_of_obj h hc hm) (fun c hc => by
    have e1 : some b = some c := hc
    cases e1; rfl)
theorem size_zeros (n : Nat) (zs : List Value) : (zeros n zs).size = n * zs.length := by simp [zeros]
theorem Grows.make [Flow] {t e : TypeId} {x y : Operand} {n size bytes : Nat} {k k' : IntKind} {z : Value} {xs : List Value} (ho : o.op = .makeSlice t x y) (hx : F.ev x = some (.int k (n : Int))) (hy : F.ev y = some (.int k' (n : Int)))
    (ht : C.P.underlying t = some (.slice e)) (hi : (C.P.info? e).map (fun i => (i.zero, i.size, i.bytes)) = some (some z, size, bytes)) (hzs : z.cells.size = size) (hb : bytes * n ≤ 281474976710656) (hn : n ≤ 9223372036854775807) (hxs : (zeros n z.cells.toList).toList = xs) :
    Grows C o F L (fun _ : Nat => True) (fun b => .slice (some ⟨b, 0, none⟩) n n) (fun b => [HL.own e size (.slice (some ⟨b, 0, none⟩) n n) n xs]) := fun a w ok next Q h =>
  Grows.makeSlice ho hx hy ht hi hzs hb hn a w ok next Q fun g w' hφ hold hs => h g w' hφ hold (by subst hxs; exact Sym.obj_own hs (by rw [size_zeros]; simp [hzs]) hn)
theorem zeros_one (n : Nat) (z : Value) : (zeros n [z]).toList = List.replicate n z := by simp [zeros]
end own
end Go.V
namespace Go.V
open Go
section owna
variable {C : Cx} {F : Fr} {L : List HL} {o : Oper}
/-- append of one element, or several, told by the new contents. -/
theorem Does.appendTo {t e ty : TypeId} {x y : Operand} {i n k m c bytes n' : Nat} {v z : Value} {xs news xs' : List Value} {A : Addr} (ho : o.op = .call { callee := .builtin .append, args := #[x, y], argTypes := #[t, t] }) (hty : o.type = ty)
    (hx : F.ev x = some v) (hy : F.ev y = some (.slice (some A) m c)) (hi : L[i]? = some (HL.own e k v n xs)) (ht : C.P.underlying t = some (.slice e))
    (hinf : (C.P.info? e).map (fun i => (i.zero, i.size, i.bytes)) = some (some z, k, bytes)) (hzs : z.cells.size = k) (hk : Nat.blt 0 k = true)
    (hnews : ∀ w, Sym C.w0 C.S L w → Cells w A news) (hl : news.length = m * k) (h1 : news.all Value.oneCell' = true) (hb : (n + m) * bytes ≤ 140737488355328) (hm : n + m ≤ 9223372036854775807) (hn' : n + m = n') (hxs : xs ++ news = xs') :
    Does C o F L (fun v' : Value => v' = .slice none 0 0 ↔ v = .slice none 0 0 ∧ m = 0) (fun v' => v') (fun v' => L.set i (HL.own e k v' n' xs')) := by
  subst hn'; subst hxs
  exact Does.append ho hty hx hy hi ht hinf hzs (by simpa using hk) hnews hl (List.all_eq_true.1 h1) hb hm
end owna
end Go.V
namespace Go.V
open Go
def ints (xs : List Int) : List Value := xs.map iv'
where iv' (n : Int) : Value := .int .i64 n
theorem ints_get {xs : List Int} {m : Nat} {y : Int} (h : xs[m]? = some y) : (ints xs)[m * 1]? = some (.int .i64 y) := by simp [ints, ints.iv', h]
@[simp] theorem length_ints (xs : List Int) : (ints xs).length = xs.length := by simp [ints]
theorem ints_set (xs : List Int) (m : Nat) (y : Int) : (ints xs).set (m * 1) (.int .i64 y) = ints (xs.set m y) := by simp [ints, ints.iv', List.map_set]
theorem ints_snoc (xs : List Int) (y : Int) : ints xs ++ [.int .i64 y] = ints (xs ++ [y]) := by simp [ints, ints.iv']
theorem ints_replicate (n : Nat) (y : Int) : List.replicate n (.int .i64 y) = ints (List.replicate n y) := by simp [ints, ints.iv']
theorem flat_get {α : Type} {enc : α → List Value} {k : Nat} (hk : ∀ x, (enc x).length = k) : ∀ {ys : List α} {m : Nat} {y : α} {j : Nat} {u : Value}, ys[m]? = some y → (enc y)[j]? = some u → (ys.flatMap enc)[m * k + j]? = some u
  | [], m, y, j, u, h, _ => by simp at h
  | y0 :: r, 0, y, j, u, h, hj => by
    simp at h; subst h
    have hj' : j < (enc y0).length := (List.getElem?_eq_some_iff.1 hj).1
    rw [List.flatMap_cons, List.getElem?_append_left (by omega)]
    simpa using hj
  | y0 :: r, m + 1, y, j, u, h, hj => by
    rw [List.flatMap_cons, List.getElem?_append_right (by rw [hk, Nat.succ_mul]; omega)]
    have := flat_get hk (ys := r) (m := m) (by simpa using h) hj
    rw [hk]
    rwa [show (m + 1) * k + j - k = m * k + j by rw [Nat.succ_mul]; omega]
theorem flat_len {α : Type} {enc : α → List Value} {k : Nat} (hk : ∀ x, (enc x).length = k) (ys : List α) : (ys.flatMap enc).length = ys.length * k := by
  induction ys with
  | nil => simp
  | cons y r ih => rw [List.flatMap_cons, List.length_append, ih, hk, List.length_cons, Nat.succ_mul]; omega
theorem flat_get_inv [Flow] {α : Type} {enc : α → List Value} {k : Nat} (hk : ∀ x, (enc x).length = k) (h0 : 0 < k) (ys : List α) (i : Nat) : (ys.flatMap enc)[i]? = (ys[i / k]?).bind fun y => (enc y)[i % k]? := by
  rcases Nat.lt_or_ge (i / k) ys.length with h | h
  · obtain ⟨y, hy⟩ : ∃ y, ys[i / k]? = some y := ⟨ys[i / k], by simp [h]⟩
    rw [hy, Option.bind_some]
    have hm : i % k < (enc y).length := by rw [hk]; exact Nat.mod_lt _ h0
    have := flat_get hk hy (List.getElem?_eq_getElem hm)
    rw [Nat.mul_comm, Nat.div_add_mod] at this
    rw [this, List.getElem?_eq_getElem hm]
  · rw [List.getElem?_eq_none h, Option.bind_none, List.getElem?_eq_none]
    rw [flat_len hk]
    have := (Nat.le_div_iff_mul_le h0).1 h
    omega
theorem flat_set [Flow] {α : Type} {enc : α → List Value} {k : Nat} (hk : ∀ x, (enc x).length = k) (h0 : 0 < k) {ys : List α} {m : Nat} (y : α) (hm : m < ys.length) :
    ∀ i, ((ys.set m y).flatMap enc)[i]? = if m * k ≤ i ∧ i < m * k + k then (enc y)[i - m * k]? else (ys.flatMap enc)[i]? := fun i => by
  rw [flat_get_inv hk h0, flat_get_inv hk h0, List.getElem?_set]
  have hd := Nat.div_add_mod i k
  have hml := Nat.mod_lt i h0
  by_cases e : m = i / k
  · subst e
    rw [if_pos rfl, if_pos hm, if_pos ⟨by rw [Nat.mul_comm]; omega, by rw [Nat.mul_comm]; omega⟩]
    simp only [Option.bind_some]
    congr 1
    rw [Nat.mul_comm]; omega
  · rw [if_neg e, if_neg]
    rintro ⟨h1, h2⟩
    apply e
    have := (Nat.le_div_iff_mul_le h0).2 h1
    have h3 : i / k < m + 1 := (Nat.div_lt_iff_lt_mul h0).2 (by rw [Nat.succ_mul]; omega)
    omega
theorem eq_int {P : Program} {t : TypeId} {k k' : IntKind} (h : P.underlying t = some (.int k')) (d : Nat) (a b : Int) (w : World) : (Op.equalIn (d + 1) t (.int k a) (.int k b)).run P w = .ok (decide (a = b)) w := by
  rw [run_equalIn_int w d t k k' a b h]; rw [Bool.beq_eq_decide_eq]
/-- Two fields of integers. -/
theorem eq_two [Flow] {P : Program} {t : TypeId} {f0 f1 : Field} {k k' : IntKind} (ht : P.underlying t = some (.struct #[f0, f1])) (hp : P.stoodInHeld t = false) (h0 : P.underlying f0.type = some (.int k)) (h1 : P.underlying f1.type = some (.int k'))
    (n0 : f0.name ≠ "_") (n1 : f1.name ≠ "_") (o0 : f0.offset = 0) (o1 : f1.offset = 1) (d : Nat) (a b a' b' : Int) (w : World) :
    (Op.equalIn (d + 2) t (.agg #[.int k a, .int k' b]) (.agg #[.int k a', .int k' b'])).run P w = .ok (decide (a = a' ∧ b = b')) w := by
  have hf : P.fieldsOf t = #[f0, f1] := by simp [Program.fieldsOf, ht]
  have i0 : ∀ w, (isAgg f0.type).run P w = .ok false w := fun w => by simp [isAgg, run_underlying h0]
  have i1 : ∀ w, (isAgg f1.type).run P w = .ok false w := fun w => by simp [isAgg, run_underlying h1]
  rw [run_equalIn_struct w (d + 1) t _ _ (by rw [hf]; exact ht) hp, hf]
  simp [Op.eqFields, n0, n1, part, i0, i1, o0, o1, eq_int h0, eq_int h1]
  by_cases e0 : a = a' <;> by_cases e1 : b = b' <;> simp [e0, e1]
theorem eq_arr4 [Flow] {P : Program} {t e : TypeId} {i : TypeInfo} {k : IntKind} (ht : P.underlying t = some (.array 4 e)) (he : P.underlying e = some (.int k)) (hi : P.info? e = some i) (hz : P.cellsOf e = 1) (d : Nat) (a b c f a' b' c' f' : Int) (w : World) :
    (Op.equalIn (d + 2) t (.agg #[.int k a, .int k b, .int k c, .int k f]) (.agg #[.int k a', .int k b', .int k c', .int k f'])).run P w = .ok (decide (a = a' ∧ b = b' ∧ c = c' ∧ f = f')) w := by
  have i0 : ∀ w, (isAgg e).run P w = .ok false w := fun w => by simp [isAgg, run_underlying he]
  rw [run_equalIn_array w (d + 1) _ _ ht hi, hz]
  simp only [List.range_succ, List.range_zero, List.nil_append, List.cons_append, Op.eqItems, Nat.mul_one, part, Sem.run_bind, i0, Result.andThen_ok, Bool.false_eq_true, if_false]
  simp only [List.getElem?_toArray, List.getElem?_cons_zero, List.getElem?_cons_succ, Sem.run_pure, Result.andThen_ok, eq_int he]
  by_cases e0 : a = a' <;> by_cases e1 : b = b' <;> by_cases e2 : c = c' <;> by_cases e3 : f = f' <;> simp [e0, e1, e2, e3, i0, eq_int he]
/-- An array of four integers and an integer. -/
theorem eq_five [Flow] {P : Program} {t e : TypeId} {i : TypeInfo} {f0 f1 : Field} {k : IntKind} (ht : P.underlying t = some (.struct #[f0, f1])) (hp : P.stoodInHeld t = false) (h0 : P.underlying f0.type = some (.array 4 e)) (h1 : P.underlying f1.type = some (.int k))
    (he : P.underlying e = some (.int k)) (hi : P.info? e = some i) (hz : P.cellsOf e = 1) (hz4 : ∀ w, (sizeOf f0.type).run P w = .ok 4 w)
    (n0 : f0.name ≠ "_") (n1 : f1.name ≠ "_") (o0 : f0.offset = 0) (o1 : f1.offset = 4) (d : Nat) (a b c f s a' b' c' f' s' : Int) (w : World) :
    (Op.equalIn (d + 3) t (.agg #[.int k a, .int k b, .int k c, .int k f, .int k s]) (.agg #[.int k a', .int k b', .int k c', .int k f', .int k s'])).run P w = .ok (decide (a = a' ∧ b = b' ∧ c = c' ∧ f = f' ∧ s = s')) w := by
  have hf : P.fieldsOf t = #[f0, f1] := by simp [Program.fieldsOf, ht]
  have i0 : ∀ w, (isAgg f0.type).run P w = .ok true w := fun w => by simp [isAgg, run_underlying h0]
  have i1 : ∀ w, (isAgg f1.type).run P w = .ok false w := fun w => by simp [isAgg, run_underlying h1]
  rw [run_equalIn_struct w (d + 2) t _ _ (by rw [hf]; exact ht) hp, hf]
  have e4 := eq_arr4 h0 he hi hz d a b c f a' b' c' f'
  simp [Op.eqFields, n0, n1, part, i0, i1, hz4, o0, o1, eq_int h1, e4]
  by_cases e0 : a = a' <;> by_cases e1 : b = b' <;> by_cases e2 : c = c' <;> by_cases e3 : f = f' <;> by_cases e4 : s = s' <;> simp [e0, e1, e2, e3, e4]
section eqs
variable {C : Cx} {F : Fr} {L : List HL} {o : Oper}
theorem Still.eqlAgg [Flow] {xt yt : TypeId} {x y : Operand} {xs ys : Array Value} {b : Bool} (ho : o.op = .binOp .eql xt x y yt) (hx : F.ev x = some (.agg xs)) (hy : F.ev y = some (.agg ys)) (hg : C.P.eqGuardType C.P.depth xt = false)
    (hr : ∀ w, (Op.equalIn 10000 xt (.agg xs) (.agg ys)).run C.P w = .ok b w) : Still C o F L (.bool b) :=
  ⟨fun c h => (by rw [ho] at h; cases h), fun a w ok => by simp only [execOp, ho, ok.fr.ev hx, ok.fr.ev hy]; simp [run_eqGuard_agg w _ xt x y xs ys hg, run_eql_struct, hr]⟩
theorem Still.neqAgg [Flow] {xt yt : TypeId} {x y : Operand} {xs ys : Array Value} {b : Bool} (ho : o.op = .binOp .neq xt x y yt) (hx : F.ev x = some (.agg xs)) (hy : F.ev y = some (.agg ys)) (hg : C.P.eqGuardType C.P.depth xt = false)
    (hr : ∀ w, (Op.equalIn 10000 xt (.agg xs) (.agg ys)).run C.P w = .ok b w) : Still C o F L (.bool (!b)) :=
  ⟨fun c h => (by rw [ho] at h; cases h), fun a w ok => by simp only [execOp, ho, ok.fr.ev hx, ok.fr.ev hy]; simp [run_eqGuard_agg w _ xt x y xs ys hg, run_neq_struct, hr]⟩
end eqs
def Meets [Flow] (C : Cx) (F : Fr) (L : List HL) (Q : Exit → Act → World → Prop) : Exit → Act → World → Prop
  | .normal, a, w => Ok C F L a w
  | e, a, w => Q e a w
theorem RunC.meet1 [Flow] {C : Cx} {c : Code} {Q : Exit → Act → World → Prop} {F chg keep : Fr} {L hkeep : List HL} (_ : keep.Sub F) (_ : HSub hkeep L) (h : RunC C c (Meets C (chg ++ keep) hkeep Q) F L) (hq : Ends C .normal Q (chg ++ keep) hkeep) : RunC C c Q F L := fun a w ok =>
  wpIn_mono (h a w ok) fun e a w h => by cases e <;> first | exact hq a w h | exact h
theorem Ends.meet1 [Flow] {C : Cx} {Q : Exit → Act → World → Prop} {F chg keep : Fr} {L hkeep : List HL} (hc : chg.Sub F) (hk : keep.Sub F) (hL : HSub hkeep L) : Ends C .normal (Meets C (chg ++ keep) hkeep Q) F L := fun _ _ ok => ok.sub (hc.app hk) hL
def MeetsG [Flow] (C : Cx) {γ : Type} (I : γ → Prop) (Fi : γ → Fr) (Li : γ → List HL) (Q : Exit → Act → World → Prop) : Exit → Act → World → Prop
  | .normal, a, w => ∃ g, I g ∧ Ok C (Fi g) (Li g) a w
  | e, a, w => Q e a w
theorem RunC.meetG [Flow] {C : Cx} {c : Code} {Q : Exit → Act → World → Prop} {F keep : Fr} {L hkeep : List HL} {γ : Type} (I : γ → Prop) (chg : γ → Fr) (hchg : γ → List HL) (_ : keep.Sub F) (_ : HSub hkeep L)
    (h : RunC C c (MeetsG C I (fun g => chg g ++ keep) (fun g => hchg g ++ hkeep) Q) F L) (hq : ∀ g, I g → Ends C .normal Q (chg g ++ keep) (hchg g ++ hkeep)) : RunC C c Q F L := fun a w ok =>
  wpIn_mono (h a w ok) fun e a w h => by cases e <;> first | (obtain ⟨g, hg, ok'⟩ := h; exact hq g hg a w ok') | exact h
theorem Ends.meetG [Flow] {C : Cx} {Q : Exit → Act → World → Prop} {F keep : Fr} {L hkeep : List HL} {γ : Type} {I : γ → Prop} {chg : γ → Fr} {hchg : γ → List HL} (g : γ) (hI : I g) (hc : (chg g).Sub F) (hk : keep.Sub F) (hL : HSub (hchg g ++ hkeep) L) :
    Ends C .normal (MeetsG C I (fun g => chg g ++ keep) (fun g => hchg g ++ hkeep) Q) F L := fun _ _ ok => ⟨g, hI, ok.sub (hc.app hk) hL⟩
def Shape (v : Value) (n : Nat) : Prop := ∃ base cap, v = .slice base n cap ∧ (0 < n → base = some (vaddr v))
theorem own_shape {w : World} {e k n : Nat} {v : Value} {xs : List Value} (h : w.ownsRow 0 e k v n xs) : Shape v n := by
  rcases h.2 with ⟨hv, h0⟩ | ⟨g, cap, cur, hv, _⟩
  · subst h0; exact ⟨none, 0, hv, fun h => by omega⟩
  · exact ⟨_, cap, hv, fun _ => by rw [hv]; rfl⟩
theorem shape_slice {base : Option Addr} {A : Addr} {n cap : Nat} (h : 0 < n → base = some A) : Shape (.slice base n cap) n := ⟨base, cap, rfl, fun hn => by rw [h hn]; rfl⟩
theorem cells_at {w : World} {A : Addr} {cs : List Value} {j : Nat} {u : Value} (h : Cells w A cs) (hj : cs[j]? = some u) : w.cell? (A.add j) = some u := h j u hj
theorem cells_at2 [Flow] {w : World} {A : Addr} {cs : List Value} {i j : Nat} {u : Value} (h : Cells w A cs) (hj : cs[i + j]? = some u) : w.cell? ((A.add i).add j) = some u := by rw [add_add]; exact h _ u hj
theorem cells_at3 [Flow] {w : World} {A : Addr} {cs : List Value} {i j l : Nat} {u : Value} (h : Cells w A cs) (hj : cs[i + j + l]? = some u) : w.cell? (((A.add i).add j).add l) = some u := by rw [add_add, add_add, ← Nat.add_assoc]; exact h _ u hj
theorem cells_part [Flow] {w : World} {A : Addr} {cs us : List Value} {i : Nat} (h : Cells w A cs) (hj : ∀ j u, us[j]? = some u → cs[i + j]? = some u) : Cells w (A.add i) us := fun j u hu => cells_at2 h (hj j u hu)
theorem cells_part2 [Flow] {w : World} {A : Addr} {cs us : List Value} {i l : Nat} (h : Cells w A cs) (hj : ∀ j u, us[j]? = some u → cs[i + l + j]? = some u) : Cells w ((A.add i).add l) us := fun j u hu => cells_at3 h (hj j u hu)
section shape
variable {C : Cx} {F : Fr} {L : List HL} {o : Oper}
theorem Still.lenV [Flow] {x : Operand} {t n : Nat} {v : Value} (ho : o.op = .call { callee := .builtin .len, args := #[x], argTypes := #[t] }) (hx : F.ev x = some v) (ht : C.P.underlying t = some (.slice (C.P.elem t))) (hv : Shape v n) : Still C o F L (.int .i64 n) := by
  obtain ⟨base, cap, hv, _⟩ := hv
  subst hv
  exact Still.lenSlice ho hx ht
theorem Still.indexV [Flow] {t et : TypeId} {x ix : Operand} {v : Value} {n k : Nat} {kd : IntKind} {i : Int} (m : Nat) (ho : o.op = .indexAddr t x ix) (hx : F.ev x = some v) (hi : F.ev ix = some (.int kd i))
    (ht : C.P.underlying t = some (.slice et)) (hz : ∀ w, (sizeOf et).run C.P w = .ok k w) (hv : Shape v n) (hm : i = (m : Int)) (hb : m < n) : Still C o F L (.pointer (some ((vaddr v).add (m * k)))) := by
  obtain ⟨base, cap, hv, hA⟩ := hv
  subst hm
  have hA' := hA (by omega)
  rw [hv] at hx hA' ⊢
  exact Still.indexSliceN ho hx hi ht hz hA' hb
end shape
theorem RunL.conv [Flow] {C : Cx} {ops : Array Oper} {Q : Exit → Act → World → Prop} {l : List Oper} {F : Fr} {L L' : List HL} (hc : ∀ w, Sym C.w0 C.S L w → Sym C.w0 C.S L' w) (h : RunL C ops Q l F L') : RunL C ops Q l F L := fun a w ok => h a w ⟨ok.fr, hc w ok.sym⟩
theorem RunC.conv [Flow] {C : Cx} {Q : Exit → Act → World → Prop} {c : Code} {F : Fr} {L L' : List HL} (hc : ∀ w, Sym C.w0 C.S L w → Sym C.w0 C.S L' w) (h : RunC C c Q F L') : RunC C c Q F L := fun a w ok => h a w ⟨ok.fr, hc w ok.sym⟩
theorem Ends.conv [Flow] {C : Cx} {Q : Exit → Act → World → Prop} {e : Exit} {F : Fr} {L L' : List HL} (hc : ∀ w, Sym C.w0 C.S L w → Sym C.w0 C.S L' w) (h : Ends C e Q F L') : Ends C e Q F L := fun a w ok => h a w ⟨ok.fr, hc w ok.sym⟩
/-- A fact that the memory holds. -/
theorem RunL.know [Flow] {C : Cx} {ops : Array Oper} {Q : Exit → Act → World → Prop} {l : List Oper} {F : Fr} {L : List HL} {p : Prop} (hp : ∀ w, Sym C.w0 C.S L w → p) (h : p → RunL C ops Q l F L) : RunL C ops Q l F L := fun a w ok => h (hp w ok.sym) a w ok
theorem RunC.know [Flow] {C : Cx} {Q : Exit → Act → World → Prop} {c : Code} {F : Fr} {L : List HL} {p : Prop} (hp : ∀ w, Sym C.w0 C.S L w → p) (h : p → RunC C c Q F L) : RunC C c Q F L := fun a w ok => h (hp w ok.sym) a w ok
/-- Many heaplets as one. -/
def HL.all : List HL → HL
  | [] => HL.emp
  | h :: r => HL.star h (HL.all r)
theorem HL.all_mem : ∀ {l : List HL} {h : HL} {w : World}, (HL.all l).holds w → h ∈ l → h.holds w
  | k :: r, h, w, hh, hm => by
    rcases List.mem_cons.1 hm with rfl | hm
    · exact hh.1
    · exact HL.all_mem hh.2.1 hm
def HL.rows {α : Type} (mk : α → HL) (as : List α) : HL := HL.all (as.reverse.map mk)
theorem rows_nil {α : Type} (mk : α → HL) : HL.rows mk [] = HL.emp := rfl
theorem rows_snoc {α : Type} (mk : α → HL) (as : List α) (a : α) : HL.rows mk (as ++ [a]) = HL.star (mk a) (HL.rows mk as) := by simp [HL.rows, HL.all]
theorem rows_get [Flow] {α : Type} {mk : α → HL} {as : List α} {a : α} {i : Nat} {w : World} (h : (HL.rows mk as).holds w) (hi : as[i]? = some a) : (mk a).holds w :=
  HL.all_mem h (List.mem_map_of_mem (List.mem_reverse.2 (List.mem_of_getElem? hi)))
theorem Sym.rows_push [Flow] {α : Type} {mk : α → HL} {as : List α} {a : α} {w0 w : World} {S : Nat → Prop} {R : List HL} (hs : Sym w0 S (mk a :: HL.rows mk as :: R) w) : Sym w0 S (HL.rows mk (as ++ [a]) :: R) w := by
  rw [rows_snoc]; exact hs.join
theorem Sym.emp [Flow] {w0 w : World} {S : Nat → Prop} {L : List HL} (hs : Sym w0 S L w) : Sym w0 S (HL.emp :: L) w := by
  refine ⟨hs.old, fun h hm => ?_, fun h hm b hb => ?_, List.pairwise_cons.2 ⟨fun _ _ b hb => hb.elim, hs.apart⟩⟩
  · rcases List.mem_cons.1 hm with rfl | hm
    · trivial
    · exact hs.holds h hm
  · rcases List.mem_cons.1 hm with rfl | hm
    · exact hb.elim
    · exact hs.supp h hm b hb
end Go.V
/- The proof layer, part g: rows of slices, empty slices, small lists. -/
namespace Go.V
open Go
section g
variable {C : Cx} {F : Fr} {L : List HL} {o : Oper}
/-- '[]T{}': nothing, but not nil. -/
theorem Grows.empty [Flow] {t e : TypeId} {size : Nat} {z : Value} (ho : o.op = .buildSlice t 0 #[]) (ht : C.P.underlying t = some (.slice e)) (hz : ∀ w, (sizeOf e).run C.P w = .ok size w) (hzv : ∀ w, (zeroValue e).run C.P w = .ok z w) :
    Grows C o F L (fun _ : Nat => True) (fun b => .slice (some ⟨b, 0, none⟩) 0 0) (fun b => [HL.own e size (.slice (some ⟨b, 0, none⟩) 0 0) 0 []]) := fun a w ok next Q h =>
  Grows.buildSlice (vs := #[]) (cells := #[]) ho rfl ht hz hzv (by omega) (by simp [Instr.fill]) a w ok next Q fun g w' hφ hold hs => h g w' hφ hold (Sym.obj_own (k := size) (n := 0) hs (by simp) (by omega))
end g
theorem Sym.rows_nil [Flow] {α : Type} {w0 w : World} {S : Nat → Prop} {L : List HL} (mk : α → HL) (hs : Sym w0 S L w) : Sym w0 S (HL.rows mk [] :: L) w := hs.emp
theorem any_take_succ {α : Type} {as : List α} {i : Nat} {a : α} {f : α → Bool} (h : as[i]? = some a) : (as.take (i + 1)).any f = ((as.take i).any f || f a) := by
  rw [List.take_add_one, h, List.any_append]; simp
theorem fst_get {α β : Type} {as : List (α × β)} {i : Nat} {a : α × β} (h : as[i]? = some a) : (as.map Prod.fst)[i * 1]? = some a.1 := by simp [h]
theorem any_snd {α β : Type} {f : β → Bool} (as : List (α × β)) : (as.map Prod.snd).any f = as.any fun a => f a.2 := by rw [List.any_map]; rfl
def bools (xs : List Bool) : List Value := xs.map Value.bool
theorem bools_get {xs : List Bool} {m : Nat} {y : Bool} (h : xs[m]? = some y) : (bools xs)[m * 1]? = some (.bool y) := by simp [bools, h]
@[simp] theorem length_bools (xs : List Bool) : (bools xs).length = xs.length := by simp [bools]
theorem bools_set (xs : List Bool) (m : Nat) (y : Bool) : (bools xs).set (m * 1) (.bool y) = bools (xs.set m y) := by simp [bools, List.map_set]
theorem bools_replicate (n : Nat) (y : Bool) : List.replicate n (.bool y) = bools (List.replicate n y) := by simp [bools]
end Go.V
/- Diagrams as data, and in memory. -/
namespace Go.V
open Go
structure Cr where
  a0 : Int
  a1 : Int
  a2 : Int
  a3 : Int
  s : Int
  deriving DecidableEq
structure Dia where
  cross : List Cr
  loops : Int
  deriving DecidableEq
def Cr.arc (x : Cr) : Nat → Int
  | 0 => x.a0
  | 1 => x.a1
  | 2 => x.a2
  | _ => x.a3
/-- Does a strand come in at a place? -/
def Cr.inn (x : Cr) (p : Nat) : Bool := decide (p = 0 ∨ p = 3 ∧ x.s = 1 ∨ p = 1 ∧ x.s = -1)
abbrev iv (n : Int) : Value := .int .i64 n
def encCr (x : Cr) : List Value := [iv x.a0, iv x.a1, iv x.a2, iv x.a3, iv x.s]
abbrev crV (x : Cr) : Value := .agg #[iv x.a0, iv x.a1, iv x.a2, iv x.a3, iv x.s]
abbrev diaV (base : Option Addr) (cap : Nat) (d : Dia) : Value := .agg #[.slice base d.cross.length cap, iv d.loops]
def In64 (n : Int) : Prop := -9223372036854775808 ≤ n ∧ n ≤ 9223372036854775807
structure Cr.Wf (x : Cr) : Prop where
  a0 : In64 x.a0
  a1 : In64 x.a1
  a2 : In64 x.a2
  a3 : In64 x.a3
  s : In64 x.s
/-- The crossings lie from A on. -/
structure DiaAt (w : World) (base : Option Addr) (A : Addr) (d : Dia) : Prop where
  base : 0 < d.cross.length → base = some A
  cell : ∀ (i : Nat) (x : Cr), d.cross[i]? = some x → Cells w (A.add (i * 5)) (encCr x)
  len : d.cross.length ≤ 9223372036854775807
  wf : ∀ x ∈ d.cross, x.Wf
  loops : In64 d.loops
theorem DiaAt.arc {w : World} {base : Option Addr} {A : Addr} {d : Dia} (h : DiaAt w base A d) {i p : Nat} {x : Cr} (hi : d.cross[i]? = some x) (hp : p < 4) : w.cell? (((A.add (i * 5)).add 0).add (p * 1)) = some (iv (x.arc p)) := by
  have := h.cell i x hi p (iv (x.arc p)) (by
    match p, hp with
    | 0, _ => rfl
    | 1, _ => rfl
    | 2, _ => rfl
    | 3, _ => rfl)
  simpa [add_add] using this
theorem DiaAt.sign {w : World} {base : Option Addr} {A : Addr} {d : Dia} (h : DiaAt w base A d) {i : Nat} {x : Cr} (hi : d.cross[i]? = some x) : w.cell? ((A.add (i * 5)).add 4) = some (iv x.s) := h.cell i x hi 4 _ rfl
theorem DiaAt.cross {w : World} {base : Option Addr} {A : Addr} {d : Dia} (h : DiaAt w base A d) {i : Nat} {x : Cr} (hi : d.cross[i]? = some x) : Cells w (A.add (i * 5)) (encCr x) := h.cell i x hi
theorem DiaAt.old {w w' : World} {base : Option Addr} {A : Addr} {d : Dia} (h : DiaAt w base A d) (ho : Old Nil w w') : DiaAt w' base A d :=
  ⟨h.base, fun i x hi j v hj => ho.cell (h.cell i x hi j v hj) (fun x => x), h.len, h.wf, h.loops⟩
theorem DiaAt.sym {w w' : World} {L : List HL} {base : Option Addr} {A : Addr} {d : Dia} (h : DiaAt w base A d) (hs : Sym w Nil L w') : DiaAt w' base A d := h.old hs.old
theorem get_of_lt {α : Type} {l : List α} {i : Nat} (h : i < l.length) : ∃ x, l[i]? = some x := ⟨l[i], by simp [h]⟩
/-- Does an arc come in (go out) at place q (crossing q / 4, place q % 4)? -/
def matchAt (d : Dia) (a : Int) (inn : Bool) (q : Nat) : Bool :=
  match d.cross[q / 4]? with
  | some x => decide (x.arc (q % 4) = a) && (x.inn (q % 4) == inn)
  | none => false
def findEnd (d : Dia) (a : Int) (inn : Bool) : Option Nat := (List.range (4 * d.cross.length)).find? (matchAt d a inn)
def endC : Option Nat → Int
  | some q => ((q / 4 : Nat) : Int)
  | none => -1
def endP : Option Nat → Int
  | some q => ((q % 4 : Nat) : Int)
  | none => 0
abbrev endV (r : Option Nat) : Value := .agg #[iv (endC r), iv (endP r)]
theorem find_range_some {N k : Nat} {M : Nat → Bool} (hk : k < N) (hM : M k = true) (hlt : ∀ q, q < k → M q = false) : (List.range N).find? M = some k := by
  rw [List.find?_range_eq_some]
  exact ⟨hM, by simpa using hk, fun q hq => by simp [hlt q hq]⟩
theorem find_range_none {N : Nat} {M : Nat → Bool} (h : ∀ q, q < N → M q = false) : (List.range N).find? M = none := by
  rw [List.find?_eq_none]
  intro q hq
  simp [h q (by simpa using hq)]
theorem matchAt_eq {d : Dia} {c p : Nat} {x : Cr} (hx : d.cross[c]? = some x) (hp : p < 4) (a : Int) (inn : Bool) : matchAt d a inn (4 * c + p) = (decide (x.arc p = a) && (x.inn p == inn)) := by
  have h1 : (4 * c + p) / 4 = c := by omega
  have h2 : (4 * c + p) % 4 = p := by omega
  simp [matchAt, h1, h2, hx]
theorem lt_ext {M : Nat → Bool} {k : Nat} (h : ∀ q, q < k → M q = false) (hk : M k = false) : ∀ q, q < k + 1 → M q = false := fun q hq => by
  rcases Nat.lt_or_ge q k with h' | h'
  · exact h q h'
  · obtain rfl : q = k := by omega
    exact hk
def Dia.n (d : Dia) : Nat := d.cross.length
def crAt (d : Dia) (c : Nat) : Cr := d.cross.getD c ⟨0, 0, 0, 0, 0⟩
theorem crAt_eq {d : Dia} {c : Nat} {x : Cr} (h : d.cross[c]? = some x) : crAt d c = x := by simp [crAt, List.getD_eq_getElem?_getD, h]
theorem crAt_get {d : Dia} {c : Nat} (h : c < d.cross.length) : d.cross[c]? = some (crAt d c) := by simp [crAt, List.getD_eq_getElem?_getD, h]
def arcQ (d : Dia) (q : Nat) : Int := (crAt d (q / 4)).arc (q % 4)
def innQ (d : Dia) (q : Nat) : Bool := (crAt d (q / 4)).inn (q % 4)
theorem matchAt_iff {d : Dia} {a : Int} {inn : Bool} {q : Nat} (hq : q < 4 * d.cross.length) : matchAt d a inn q = true ↔ arcQ d q = a ∧ innQ d q = inn := by
  have h : q / 4 < d.cross.length := by omega
  simp [matchAt, crAt_get h, arcQ, innQ]
theorem findEnd_some {d : Dia} {a : Int} {inn : Bool} {q : Nat} (h : findEnd d a inn = some q) : q < 4 * d.cross.length ∧ arcQ d q = a ∧ innQ d q = inn ∧ ∀ q', q' < q → matchAt d a inn q' = false := by
  have h1 := List.find?_range_eq_some.1 h
  have h2 : q < 4 * d.cross.length := by simpa using h1.2.1
  exact ⟨h2, ((matchAt_iff h2).1 h1.1).1, ((matchAt_iff h2).1 h1.1).2, fun q' hq' => by simpa using h1.2.2 q' hq'⟩
/-- How many of the first Q places match. -/
def cnt (d : Dia) (a : Int) (inn : Bool) (Q : Nat) : Nat := ((List.range Q).filter (matchAt d a inn)).length
theorem cnt_zero (d : Dia) (a : Int) (inn : Bool) : cnt d a inn 0 = 0 := rfl
theorem cnt_succ (d : Dia) (a : Int) (inn : Bool) (Q : Nat) : cnt d a inn (Q + 1) = cnt d a inn Q + if matchAt d a inn Q = true then 1 else 0 := by
  simp only [cnt, List.range_succ, List.filter_append, List.length_append]
  by_cases h : matchAt d a inn Q = true <;> simp [h]
def SoundP (d : Dia) : Prop := d.cross.length ≤ 200 ∧ 0 ≤ d.loops ∧ d.loops ≤ 200 ∧ (∀ x ∈ d.cross, (x.s = 1 ∨ x.s = -1) ∧ ∀ p, p < 4 → 0 ≤ x.arc p ∧ x.arc p < 2 * d.cross.length) ∧
  ∀ a : Nat, a < 2 * d.cross.length → cnt d a false (4 * d.cross.length) = 1 ∧ cnt d a true (4 * d.cross.length) = 1
/-- The arc behind an arc. -/
def nextA (d : Dia) (a : Int) : Int := match findEnd d a true with
  | some q => (crAt d (q / 4)).arc ((q % 4 + 2) % 4)
  | none => 0
def writheTo (d : Dia) (c : Nat) : Int := ((d.cross.take c).map Cr.s).sum
def writhe (d : Dia) : Int := writheTo d d.cross.length
theorem writheTo_succ {d : Dia} {c : Nat} {x : Cr} (hx : d.cross[c]? = some x) : writheTo d (c + 1) = writheTo d c + x.s := by
  have hc : c < d.cross.length := (List.getElem?_eq_some_iff.1 hx).1
  simp only [writheTo, List.take_add_one, hx, Option.toList_some, List.map_append, List.sum_append]
  simp
theorem writheTo_bound {d : Dia} (h : ∀ x ∈ d.cross, x.s = 1 ∨ x.s = -1) : ∀ c : Nat, -(c : Int) ≤ writheTo d c ∧ writheTo d c ≤ c := by
  intro c
  induction c with
  | zero => simp [writheTo]
  | succ c ih =>
    rcases Nat.lt_or_ge c d.cross.length with hc | hc
    · obtain ⟨x, hx⟩ := get_of_lt hc
      have := h x (List.mem_of_getElem? hx)
      rw [writheTo_succ hx]; omega
    · have e : writheTo d (c + 1) = writheTo d c := by simp only [writheTo]; rw [List.take_of_length_le (by omega), List.take_of_length_le hc]
      rw [e]; omega
/-- -1 in the first places, 0 behind. -/
def negTo (N a : Nat) : List Int := (List.range N).map fun i => if i < a then -1 else 0
theorem negTo_len (N a : Nat) : (negTo N a).length = N := by simp [negTo]
theorem negTo_zero (N : Nat) : negTo N 0 = List.replicate N 0 := by
  apply List.ext_getElem?; intro i
  simp only [negTo, List.getElem?_map, List.getElem?_replicate]
  by_cases h : i < N <;> simp [h]
theorem negTo_all (N : Nat) : negTo N N = List.replicate N (-1) := by
  apply List.ext_getElem?; intro i
  simp only [negTo, List.getElem?_map, List.getElem?_replicate]
  by_cases h : i < N <;> simp [h]
theorem negTo_succ {N a : Nat} (h : a < N) : (negTo N a).set a (-1) = negTo N (a + 1) := by
  apply List.ext_getElem?
  intro i
  rw [List.getElem?_set]
  simp only [negTo, List.length_map, List.length_range, List.getElem?_map]
  by_cases hi : i < N
  · by_cases e : a = i
    · subst e; simp [h]
    · by_cases h1 : i < a
      · simp [e, hi, h1, show i < a + 1 by omega]
      · simp [e, hi, h1, show ¬ i < a + 1 by omega]
  · simp [hi]; intro e; omega
/-- From b on along nx as long as there is no number: number k. -/
def markC (nx : Nat → Nat) (k : Int) : Nat → List Int → Nat → List Int
  | 0, out, _ => out
  | f + 1, out, b => if out.getD b 0 < 0 then markC nx k f (out.set b k) (nx b) else out
def compStep (nx : Nat → Nat) (N : Nat) (s : List Int × Nat) (a : Nat) : List Int × Nat := if 0 ≤ s.1.getD a 0 then s else (markC nx (s.2 : Int) N s.1 a, s.2 + 1)
def compTo (nx : Nat → Nat) (N a : Nat) : List Int × Nat := (List.range a).foldl (compStep nx N) (List.replicate N (-1), 0)
theorem compTo_succ (nx : Nat → Nat) (N a : Nat) : compTo nx N (a + 1) = compStep nx N (compTo nx N a) a := by simp [compTo, List.range_succ]
def nextN (d : Dia) (a : Nat) : Nat := (nextA d (a : Int)).toNat
def compOf (d : Dia) : List Int := (compTo (nextN d) (2 * d.cross.length) (2 * d.cross.length)).1
def compCount (d : Dia) : Nat := (compTo (nextN d) (2 * d.cross.length) (2 * d.cross.length)).2
theorem markC_stop {nx : Nat → Nat} {k : Int} {f : Nat} {out : List Int} {b : Nat} (h : ¬ out.getD b 0 < 0) : markC nx k f out b = out := by
  cases f with
  | zero => rfl
  | succ f => rw [markC, if_neg h]
theorem markC_go {nx : Nat → Nat} {k : Int} {f : Nat} {out : List Int} {b : Nat} (h : out.getD b 0 < 0) : markC nx k (f + 1) out b = markC nx k f (out.set b k) (nx b) := by rw [markC, if_pos h]
theorem markC_len (nx : Nat → Nat) (k : Int) : ∀ (f : Nat) (out : List Int) (b : Nat), (markC nx k f out b).length = out.length
  | 0, _, _ => rfl
  | f + 1, out, b => by
    rw [markC]
    split
    · rw [markC_len nx k f, List.length_set]
    · rfl
theorem compTo_len (nx : Nat → Nat) (N a : Nat) : (compTo nx N a).1.length = N := by
  induction a with
  | zero => simp [compTo]
  | succ a ih =>
    rw [compTo_succ, compStep]
    split
    · exact ih
    · rw [markC_len]; exact ih
theorem compTo_le (nx : Nat → Nat) (N a : Nat) : (compTo nx N a).2 ≤ a := by
  induction a with
  | zero => simp [compTo]
  | succ a ih =>
    rw [compTo_succ, compStep]
    split
    · omega
    · show _ + 1 ≤ _; omega
/-- How many numbers are below 0. -/
def negs (out : List Int) : Nat := (out.filter fun x => decide (x < 0)).length
theorem negs_le (out : List Int) : negs out ≤ out.length := List.length_filter_le _ _
theorem negs_set {out : List Int} {b : Nat} {k : Int} (hb : b < out.length) (h : out.getD b 0 < 0) (hk : 0 ≤ k) : negs (out.set b k) + 1 = negs out := by
  induction out generalizing b with
  | nil => simp at hb
  | cons x r ih =>
    cases b with
    | zero =>
      simp only [List.getD_cons_zero] at h
      have h2 : ¬ k < 0 := by omega
      simp [negs, h, h2]
    | succ b =>
      have := ih (b := b) (by simpa using hb) (by simpa using h)
      simp only [List.set_cons_succ]
      by_cases hx : x < 0 <;> simp [negs, hx] at this ⊢ <;> omega
theorem negs_pos {out : List Int} {b : Nat} (hb : b < out.length) (h : out.getD b 0 < 0) : 0 < negs out := by
  have := negs_set (k := 0) hb h (Int.le_refl _); omega
theorem getD_get {α : Type} {l : List α} {i : Nat} (h : i < l.length) (z : α) : l[i]? = some (l.getD i z) := by simp [List.getD_eq_getElem?_getD, h]
theorem cnt_le_one_unique {d : Dia} {a : Int} {inn : Bool} : ∀ {Q : Nat}, cnt d a inn Q ≤ 1 → ∀ q q', q < Q → q' < Q → matchAt d a inn q = true → matchAt d a inn q' = true → q = q' := by
  intro Q
  induction Q with
  | zero => intro _ q q' h; omega
  | succ Q ih =>
    intro h q q' hq hq' m m'
    rw [cnt_succ] at h
    have key : ∀ r, r < Q → matchAt d a inn r = true → 0 < cnt d a inn Q := by
      intro r hr hm
      simp only [cnt]
      apply List.length_pos_of_mem (a := r)
      simp [hr, hm]
    by_cases e : matchAt d a inn Q = true
    · rw [if_pos e] at h
      have h1 : q = Q := by
        rcases Nat.lt_or_ge q Q with h2 | h2
        · have := key q h2 m; omega
        · omega
      have h1' : q' = Q := by
        rcases Nat.lt_or_ge q' Q with h2 | h2
        · have := key q' h2 m'; omega
        · omega
      omega
    · rw [if_neg e] at h
      have h1 : q < Q := by
        rcases Nat.lt_or_ge q Q with h2 | h2
        · exact h2
        · have : q = Q := by omega
          subst this; exact absurd m e
      have h1' : q' < Q := by
        rcases Nat.lt_or_ge q' Q with h2 | h2
        · exact h2
        · have : q' = Q := by omega
          subst this; exact absurd m' e
      exact ih (by omega) q q' h1 h1' m m'
theorem cnt_pos_find {d : Dia} {a : Int} {inn : Bool} (h : 0 < cnt d a inn (4 * d.cross.length)) : ∃ q, findEnd d a inn = some q := by
  obtain ⟨r, hr⟩ := List.exists_mem_of_length_pos h
  simp at hr
  cases hf : findEnd d a inn with
  | some q => exact ⟨q, rfl⟩
  | none =>
    rw [findEnd, List.find?_eq_none] at hf
    exact absurd hr.2 (hf r (by simpa using hr.1))
theorem SoundP.find {d : Dia} (h : SoundP d) {a : Nat} (ha : a < 2 * d.cross.length) (inn : Bool) : ∃ q, findEnd d (a : Int) inn = some q := by
  obtain ⟨_, _, _, _, h5⟩ := h
  refine cnt_pos_find ?_
  cases inn
  · rw [(h5 a ha).1]; omega
  · rw [(h5 a ha).2]; omega
theorem SoundP.arc {d : Dia} (h : SoundP d) {c p : Nat} (hc : c < d.cross.length) (hp : p < 4) : 0 ≤ (crAt d c).arc p ∧ (crAt d c).arc p < 2 * d.cross.length :=
  (h.2.2.2.1 (crAt d c) (List.mem_of_getElem? (crAt_get hc))).2 p hp
theorem SoundP.next {d : Dia} (h : SoundP d) {a : Nat} (ha : a < 2 * d.cross.length) : nextA d (a : Int) = ((nextN d a : Nat) : Int) ∧ nextN d a < 2 * d.cross.length := by
  obtain ⟨q, hq⟩ := h.find ha true
  have h1 := (findEnd_some hq).1
  have h2 := h.arc (c := q / 4) (p := (q % 4 + 2) % 4) (by omega) (by omega)
  have e : nextA d (a : Int) = (crAt d (q / 4)).arc ((q % 4 + 2) % 4) := by rw [nextA, hq]
  simp only [nextN, e]
  omega
theorem compOf_len (d : Dia) : (compOf d).length = 2 * d.cross.length := compTo_len _ _ _
def cntL (d : Dia) (inn : Bool) (Q : Nat) : List Int := (List.range (2 * d.cross.length)).map fun a : Nat => (cnt d (a : Int) inn Q : Int)
theorem cntL_len (d : Dia) (inn : Bool) (Q : Nat) : (cntL d inn Q).length = 2 * d.cross.length := by simp [cntL]
theorem cntL_zero (d : Dia) (inn : Bool) : cntL d inn 0 = List.replicate (2 * d.cross.length) 0 := by
  apply List.ext_getElem?; intro i
  by_cases h : i < 2 * d.cross.length <;> simp [cntL, cnt_zero, h]
theorem cntL_get {d : Dia} {inn : Bool} {Q a : Nat} (ha : a < 2 * d.cross.length) : (cntL d inn Q)[a]? = some (cnt d (a : Int) inn Q : Int) := by simp [cntL, ha]
theorem cnt_bound (d : Dia) (a : Int) (inn : Bool) (Q : Nat) : cnt d a inn Q ≤ Q := by
  simp only [cnt]; have := List.length_filter_le (matchAt d a inn) (List.range Q); simpa using this
theorem cntL_same {d : Dia} {inn : Bool} {c p : Nat} {x : Cr} (hx : d.cross[c]? = some x) (hp : p < 4) (h : x.inn p ≠ inn) : cntL d inn (4 * c + (p + 1)) = cntL d inn (4 * c + p) := by
  simp only [cntL]
  apply List.map_congr_left
  intro a _
  rw [show 4 * c + (p + 1) = 4 * c + p + 1 by omega, cnt_succ, matchAt_eq hx hp]
  have : (x.inn p == inn) = false := by simpa using h
  simp [this]
theorem cntL_set {d : Dia} {inn : Bool} {c p m : Nat} {x : Cr} (hx : d.cross[c]? = some x) (hp : p < 4) (h : x.inn p = inn) (hm : x.arc p = (m : Int)) (hl : m < 2 * d.cross.length) :
    (cntL d inn (4 * c + p)).set m ((cnt d (m : Int) inn (4 * c + p) : Int) + 1) = cntL d inn (4 * c + (p + 1)) := by
  apply List.ext_getElem?
  intro a
  rw [List.getElem?_set, cntL_len]
  have key : ∀ a : Nat, cnt d (a : Int) inn (4 * c + (p + 1)) = cnt d (a : Int) inn (4 * c + p) + if m = a then 1 else 0 := by
    intro a
    rw [show 4 * c + (p + 1) = 4 * c + p + 1 by omega, cnt_succ, matchAt_eq hx hp, hm, h]
    by_cases e : m = a
    · subst e; simp
    · have : ¬ ((m : Int) = (a : Int)) := by omega
      simp [e, this]
  by_cases ha : a < 2 * d.cross.length
  · by_cases e : m = a
    · subst e
      rw [if_pos rfl, if_pos hl, cntL_get ha, key]; simp
    · rw [if_neg e, cntL_get ha, cntL_get ha, key]; simp [e]
  · rw [if_neg (by omega), List.getElem?_eq_none (by rw [cntL_len]; omega), List.getElem?_eq_none (by rw [cntL_len]; omega)]
noncomputable def soundB (d : Dia) : Bool := @decide (SoundP d) (Classical.propDecidable _)
theorem soundB_true {d : Dia} (h : SoundP d) : Value.bool true = .bool (soundB d) := congrArg Value.bool (@decide_eq_true _ (Classical.propDecidable _) h).symm
theorem soundB_false {d : Dia} (h : ¬ SoundP d) : Value.bool false = .bool (soundB d) := congrArg Value.bool (@decide_eq_false _ (Classical.propDecidable _) h).symm
theorem soundB_iff {d : Dia} : soundB d = true ↔ SoundP d := @decide_eq_true_iff _ (Classical.propDecidable _)
theorem arc_nat {x : Cr} {p : Nat} (h : 0 ≤ x.arc p) : x.arc p = ((x.arc p).toNat : Int) := (Int.toNat_of_nonneg h).symm
def encQ (q : Nat) : List Value := [iv ((q / 4 : Nat) : Int), iv ((q % 4 : Nat) : Int)]
theorem encQ_len (q : Nat) : (encQ q).length = 2 := rfl
theorem encQ_at {qs : List Nat} {m q : Nat} (h : qs[m]? = some q) : ∀ j u, [iv ((q / 4 : Nat) : Int), iv ((q % 4 : Nat) : Int)][j]? = some u → (qs.flatMap encQ)[m * 2 + j]? = some u := fun _ _ hu => flat_get encQ_len h hu
def otherQ (d : Dia) (q : Nat) : Nat := (findEnd d (arcQ d q) (!innQ d q)).getD 0
def stepQ (d : Dia) (q : Nat) : Nat := 4 * (otherQ d q / 4) + (otherQ d q % 4 + 3) % 4
theorem SoundP.arcQ {d : Dia} (h : SoundP d) {q : Nat} (hq : q < 4 * d.cross.length) : 0 ≤ arcQ d q ∧ arcQ d q < 2 * d.cross.length := h.arc (c := q / 4) (p := q % 4) (by omega) (by omega)
theorem SoundP.other {d : Dia} (h : SoundP d) {q : Nat} (hq : q < 4 * d.cross.length) : findEnd d (V.arcQ d q) (!innQ d q) = some (otherQ d q) := by
  have ha := h.arcQ hq
  obtain ⟨r, hr⟩ := h.find (a := (V.arcQ d q).toNat) (by omega) (!innQ d q)
  rw [Int.toNat_of_nonneg ha.1] at hr
  simp [otherQ, hr]
theorem SoundP.other_lt {d : Dia} (h : SoundP d) {q : Nat} (hq : q < 4 * d.cross.length) : otherQ d q < 4 * d.cross.length := (findEnd_some (h.other hq)).1
theorem SoundP.step_lt {d : Dia} (h : SoundP d) {q : Nat} (hq : q < 4 * d.cross.length) : stepQ d q < 4 * d.cross.length := by
  have := h.other_lt hq; simp only [stepQ]; omega
theorem SoundP.match_unique {d : Dia} (h : SoundP d) {a : Nat} (ha : a < 2 * d.cross.length) {inn : Bool} {q q' : Nat} (hq : q < 4 * d.cross.length) (hq' : q' < 4 * d.cross.length) (m : matchAt d (a : Int) inn q = true) (m' : matchAt d (a : Int) inn q' = true) : q = q' := by
  have h5 := h.2.2.2.2 a ha
  cases inn
  · exact cnt_le_one_unique (by rw [h5.1]; omega) q q' hq hq' m m'
  · exact cnt_le_one_unique (by rw [h5.2]; omega) q q' hq hq' m m'
theorem SoundP.place_unique {d : Dia} (h : SoundP d) {q q' : Nat} (hq : q < 4 * d.cross.length) (hq' : q' < 4 * d.cross.length) (ha : V.arcQ d q = V.arcQ d q') (hi : innQ d q = innQ d q') : q = q' := by
  have h1 := h.arcQ hq
  refine h.match_unique (a := (V.arcQ d q).toNat) (inn := innQ d q) (by omega) hq hq' ?_ ?_
  · rw [matchAt_iff hq, Int.toNat_of_nonneg h1.1]; exact ⟨rfl, rfl⟩
  · rw [matchAt_iff hq', Int.toNat_of_nonneg h1.1]; exact ⟨ha.symm, hi.symm⟩
theorem SoundP.other_other {d : Dia} (h : SoundP d) {q : Nat} (hq : q < 4 * d.cross.length) : otherQ d (otherQ d q) = q := by
  have h1 := findEnd_some (h.other hq)
  have h2 := findEnd_some (h.other h1.1)
  refine h.place_unique h2.1 hq (h2.2.1.trans h1.2.1) ?_
  rw [h2.2.2.1, h1.2.2.1, Bool.not_not]
theorem SoundP.step_inj {d : Dia} (h : SoundP d) {q q' : Nat} (hq : q < 4 * d.cross.length) (hq' : q' < 4 * d.cross.length) (e : stepQ d q = stepQ d q') : q = q' := by
  have h1 : otherQ d q = otherQ d q' := by simp only [stepQ] at e; omega
  rw [← h.other_other hq, h1, h.other_other hq']
def iter (f : Nat → Nat) : Nat → Nat → Nat
  | 0, x => x
  | k + 1, x => iter f k (f x)
theorem iter_succ (f : Nat → Nat) : ∀ (k x : Nat), iter f (k + 1) x = f (iter f k x)
  | 0, _ => rfl
  | k + 1, x => by rw [iter, iter_succ f k (f x)]; rfl
theorem iter_add (f : Nat → Nat) (a : Nat) : ∀ (b x : Nat), iter f (a + b) x = iter f a (iter f b x)
  | 0, _ => rfl
  | b + 1, x => by rw [← Nat.add_assoc, iter, iter_add f a b (f x)]; rfl
theorem iter_lt {f : Nat → Nat} {N : Nat} (hf : ∀ x, x < N → f x < N) : ∀ (k x : Nat), x < N → iter f k x < N
  | 0, _, h => h
  | k + 1, x, h => iter_lt hf k (f x) (hf x h)
/-- A permutation of the numbers below N comes back. -/
theorem comes_back {f : Nat → Nat} {N : Nat} (hf : ∀ x, x < N → f x < N) (hi : ∀ x y, x < N → y < N → f x = f y → x = y) {x : Nat} (hx : x < N) : ∃ j, j < N ∧ iter f (j + 1) x = x := by
  -- among the first N + 1 iterates two are equal
  have hpig : ∃ a b, a < b ∧ b ≤ N ∧ iter f a x = iter f b x := by
    refine Classical.byContradiction fun hno => ?_
    have hnd : ((List.range (N + 1)).map fun k => iter f k x).Nodup := by
      rw [List.nodup_iff_pairwise_ne]
      rw [List.pairwise_map]
      refine List.Pairwise.imp_of_mem ?_ (List.pairwise_lt_range)
      intro a b _ hb hab e
      exact hno ⟨a, b, hab, by have := List.mem_range.1 hb; omega, e⟩
    have hsub : ((List.range (N + 1)).map fun k => iter f k x) ⊆ List.range N := by
      intro y hy
      obtain ⟨k, _, rfl⟩ := List.mem_map.1 hy
      exact List.mem_range.2 (iter_lt hf k x hx)
    have := List.Nodup.length_le_of_subset hnd hsub
    simp only [List.length_map, List.length_range] at this
    omega
  obtain ⟨a, b, hab, hb, e⟩ := hpig
  -- take off the first a steps
  have back : ∀ (a b : Nat), a ≤ b → iter f a x = iter f b x → iter f (b - a) x = x := by
    intro a
    induction a with
    | zero => intro b _ e; simpa [iter] using e.symm
    | succ a ih =>
      intro b hab e
      obtain ⟨b, rfl⟩ : ∃ c, b = c + 1 := ⟨b - 1, by omega⟩
      rw [iter_succ, iter_succ] at e
      have := hi _ _ (iter_lt hf a x hx) (iter_lt hf b x hx) e
      have := ih b (by omega) this
      rwa [show b + 1 - (a + 1) = b - a by omega]
  exact ⟨b - a - 1, by omega, by rw [show b - a - 1 + 1 = b - a by omega]; exact back a b (by omega) e⟩
def orbGo (f : Nat → Nat) (q0 : Nat) : Nat → Nat → List Nat
  | 0, _ => []
  | k + 1, x => x :: (if f x = q0 then [] else orbGo f q0 k (f x))
theorem orbGo_last {f : Nat → Nat} {q0 k x : Nat} (h : f x = q0) : orbGo f q0 (k + 1) x = [x] := by rw [orbGo, if_pos h]
theorem orbGo_next {f : Nat → Nat} {q0 k x : Nat} (h : ¬ f x = q0) : orbGo f q0 (k + 1) x = x :: orbGo f q0 k (f x) := by rw [orbGo, if_neg h]
def regionOf (d : Dia) (q : Nat) : List Nat := orbGo (stepQ d) q (4 * d.cross.length) q
theorem SoundP.back {d : Dia} (h : SoundP d) {q : Nat} (hq : q < 4 * d.cross.length) : ∃ j, j ≤ 4 * d.cross.length - 1 ∧ iter (stepQ d) (j + 1) q = q := by
  obtain ⟨j, hj, e⟩ := comes_back (fun x hx => h.step_lt hx) (fun x y hx hy e => h.step_inj hx hy e) hq
  exact ⟨j, by omega, e⟩
def regStep (d : Dia) (out : List (List Nat)) (q : Nat) : List (List Nat) := if out.any (fun r => r.contains q) then out else out ++ [regionOf d q]
def regsTo (d : Dia) (Q : Nat) : List (List Nat) := (List.range Q).foldl (regStep d) []
def regsOf (d : Dia) : List (List Nat) := regsTo d (4 * d.cross.length)
theorem regsTo_succ (d : Dia) (Q : Nat) : regsTo d (Q + 1) = regStep d (regsTo d Q) Q := by simp [regsTo, List.range_succ]
theorem regsTo_len (d : Dia) (Q : Nat) : (regsTo d Q).length ≤ Q := by
  induction Q with
  | zero => simp [regsTo]
  | succ Q ih => rw [regsTo_succ, regStep]; split; omega; simp; omega
theorem orbGo_len (f : Nat → Nat) (q0 : Nat) : ∀ (k x : Nat), (orbGo f q0 k x).length ≤ k
  | 0, _ => by simp [orbGo]
  | k + 1, x => by
    rw [orbGo]
    split
    · simp
    · simp; exact orbGo_len f q0 k _
def regHL (a : Value × List Nat) : HL := HL.own 110 2 a.1 a.2.length (a.2.flatMap encQ)
theorem regionOf_len (d : Dia) (q : Nat) : (regionOf d q).length ≤ 4 * d.cross.length := orbGo_len _ _ _ _
theorem regsTo_mem (d : Dia) (Q : Nat) : ∀ r ∈ regsTo d Q, ∃ q, q < Q ∧ r = regionOf d q := by
  induction Q with
  | zero => intro r hr; simp [regsTo] at hr
  | succ Q ih =>
    intro r hr
    rw [regsTo_succ, regStep] at hr
    split at hr
    · obtain ⟨q, h, e⟩ := ih r hr; exact ⟨q, by omega, e⟩
    · rcases List.mem_append.1 hr with hr | hr
      · obtain ⟨q, h, e⟩ := ih r hr; exact ⟨q, by omega, e⟩
      · exact ⟨Q, by omega, List.mem_singleton.1 hr⟩
theorem regsTo_mem_len {d : Dia} {Q : Nat} {as : List (Value × List Nat)} (h : as.map Prod.snd = regsTo d Q) {a : Value × List Nat} (ha : a ∈ as) : a.2.length ≤ 4 * d.cross.length := by
  obtain ⟨q, _, e⟩ := regsTo_mem d Q a.2 (by rw [← h]; exact List.mem_map_of_mem ha)
  rw [e]; exact regionOf_len d q
theorem regsTo_as_len {d : Dia} {Q : Nat} {as : List (Value × List Nat)} (h : as.map Prod.snd = regsTo d Q) : as.length ≤ Q := by
  have := regsTo_len d Q; rw [← h, List.length_map] at this; exact this
theorem regs_push {d : Dia} {Q : Nat} {as : List (Value × List Nat)} {v : Value} (h : as.map Prod.snd = regsTo d Q) (hn : as.any (fun a => a.2.contains Q) = false) : (as ++ [(v, regionOf d Q)]).map Prod.snd = regsTo d (Q + 1) := by
  rw [regsTo_succ, regStep, ← h, any_snd, if_neg (by rw [hn]; simp), List.map_append]; rfl
theorem regs_keep {d : Dia} {Q : Nat} {as : List (Value × List Nat)} (h : as.map Prod.snd = regsTo d Q) (hn : as.any (fun a => a.2.contains Q) = true) : as.map Prod.snd = regsTo d (Q + 1) := by
  rw [regsTo_succ, regStep, ← h, any_snd, if_pos hn]
theorem step_div (d : Dia) (q : Nat) : stepQ d q / 4 = otherQ d q / 4 := by simp only [stepQ]; omega
theorem step_mod (d : Dia) (q : Nat) : stepQ d q % 4 = (otherQ d q % 4 + 3) % 4 := by simp only [stepQ]; omega
theorem flatQ_snoc {qs : List Nat} {y : Nat} {a b : Int} (h1 : a = ((y / 4 : Nat) : Int)) (h2 : b = ((y % 4 : Nat) : Int)) : qs.flatMap encQ ++ [iv a, iv b] = (qs ++ [y]).flatMap encQ := by
  subst h1; subst h2
  rw [List.flatMap_append]; rfl
end Go.V
/- Diagrams as data, part b: connected crossings, pieces, the planar diagrams. -/
namespace Go.V
open Go
inductive Conn (d : Dia) (a : Nat) : Nat → Prop
  | refl : Conn d a a
  | step {c p : Nat} (h : Conn d a c) (hp : p < 4) : Conn d a (otherQ d (4 * c + p) / 4)
theorem Conn.lt {d : Dia} (hs : SoundP d) {a c : Nat} (ha : a < d.cross.length) (h : Conn d a c) : c < d.cross.length := by
  induction h with
  | refl => exact ha
  | @step c p h hp ih => have := hs.other_lt (q := 4 * c + p) (by omega); omega
theorem Conn.trans {d : Dia} {a b c : Nat} (h : Conn d a b) (k : Conn d b c) : Conn d a c := by
  induction k with
  | refl => exact h
  | step _ hp ih => exact ih.step hp
theorem Conn.back1 {d : Dia} (hs : SoundP d) {c p : Nat} (hc : c < d.cross.length) (hp : p < 4) : Conn d (otherQ d (4 * c + p) / 4) c := by
  have hq : 4 * c + p < 4 * d.cross.length := by omega
  have h1 := hs.other_lt hq
  have h2 := hs.other_other hq
  have h3 := Conn.step (d := d) (a := otherQ d (4 * c + p) / 4) (p := otherQ d (4 * c + p) % 4) .refl (by omega)
  rw [show 4 * (otherQ d (4 * c + p) / 4) + otherQ d (4 * c + p) % 4 = otherQ d (4 * c + p) by omega, h2, show (4 * c + p) / 4 = c by omega] at h3
  exact h3
theorem Conn.symm {d : Dia} (hs : SoundP d) {a c : Nat} (ha : a < d.cross.length) (h : Conn d a c) : Conn d c a := by
  induction h with
  | refl => exact .refl
  | step h hp ih => exact (Conn.back1 hs (h.lt hs ha) hp).trans ih
noncomputable def connB (d : Dia) (a c : Nat) : Bool := @decide (Conn d a c) (Classical.propDecidable _)
theorem connB_iff {d : Dia} {a c : Nat} : connB d a c = true ↔ Conn d a c := @decide_eq_true_iff _ (Classical.propDecidable _)
theorem connB_false {d : Dia} {a c : Nat} : connB d a c = false ↔ ¬ Conn d a c := @decide_eq_false_iff_not _ (Classical.propDecidable _)
noncomputable def pieceOf (d : Dia) (a : Nat) : List Nat := (List.range d.cross.length).filter (connB d a)
theorem conn_congr {d : Dia} (hs : SoundP d) {a b : Nat} (ha : a < d.cross.length) (h : Conn d a b) (c : Nat) : connB d a c = connB d b c := by
  by_cases hc : Conn d a c
  · rw [connB_iff.2 hc, connB_iff.2 ((h.symm hs ha).trans hc)]
  · rw [connB_false.2 hc, connB_false.2 (fun k => hc (h.trans k))]
theorem piece_congr {d : Dia} (hs : SoundP d) {a b : Nat} (ha : a < d.cross.length) (h : Conn d a b) : pieceOf d a = pieceOf d b := by
  simp only [pieceOf]; exact congrArg (fun f => List.filter f _) (funext (conn_congr hs ha h))
theorem mem_piece {d : Dia} {a c : Nat} : c ∈ pieceOf d a ↔ c < d.cross.length ∧ Conn d a c := by simp [pieceOf, connB_iff]
theorem piece_self {d : Dia} {a : Nat} (ha : a < d.cross.length) : a ∈ pieceOf d a := mem_piece.2 ⟨ha, .refl⟩
theorem piece_nodup (d : Dia) (a : Nat) : (pieceOf d a).Nodup := List.Nodup.sublist List.filter_sublist List.nodup_range
def Cl (d : Dia) (xs : List Bool) (c p : Nat) : Prop := xs[c]? = some true → xs[otherQ d (4 * c + p) / 4]? = some true
def falses (xs : List Bool) : Nat := (xs.filter fun b => !b).length
theorem falses_set {xs : List Bool} : ∀ {i : Nat}, xs[i]? = some false → falses (xs.set i true) + 1 = falses xs := by
  induction xs with
  | nil => intro i h; simp at h
  | cons b r ih =>
    intro i h
    cases i with
    | zero => simp at h; subst h; simp [falses]
    | succ i =>
      have := ih (i := i) (by simpa using h)
      simp only [falses, List.set_cons_succ, List.filter_cons] at this ⊢
      cases b <;> simp <;> omega
theorem closed_conn {d : Dia} (hs : SoundP d) {a : Nat} {xs : List Bool} (ha : a < d.cross.length) (hxs : xs.length = d.cross.length) (h0 : xs[a]? = some true) (hc : ∀ c, xs[c]? = some true → Conn d a c) (hcl : ∀ c p, c < d.cross.length → p < 4 → Cl d xs c p) (c : Nat) (hlt : c < d.cross.length) :
    xs[c]? = some (connB d a c) := by
  have key : ∀ c, Conn d a c → xs[c]? = some true := by
    intro c h
    induction h with
    | refl => exact h0
    | step h hp ih => exact hcl _ _ (h.lt hs ha) hp ih
  obtain ⟨y, hy⟩ := get_of_lt (l := xs) (i := c) (by omega)
  rw [hy]
  cases y
  · rw [connB_false.2 (fun k => by rw [key c k] at hy; cases hy)]
  · rw [connB_iff.2 (hc c hy)]
noncomputable def cntReg (d : Dia) (a : Nat) : Nat := ((regsOf d).filter fun r => connB d a (r.headD 0 / 4)).length
def PlanarP (d : Dia) : Prop := ∀ c, c < d.cross.length → cntReg d c = (pieceOf d c).length + 2
theorem cntReg_congr {d : Dia} (hs : SoundP d) {a b : Nat} (ha : a < d.cross.length) (h : Conn d a b) : cntReg d a = cntReg d b := by
  simp only [cntReg, conn_congr hs ha h]
theorem regionOf_head {d : Dia} {q : Nat} (h : 0 < d.cross.length) : (regionOf d q).headD 0 = q ∧ 0 < (regionOf d q).length := by
  simp only [regionOf]
  obtain ⟨k, hk⟩ : ∃ k, 4 * d.cross.length = k + 1 := ⟨4 * d.cross.length - 1, by omega⟩
  rw [hk, orbGo]; simp
theorem piece_first (d : Dia) {c : Nat} (hc : c < d.cross.length) : ∃ m, (pieceOf d c)[0]? = some m := by
  have := piece_self (d := d) hc
  cases h : pieceOf d c with
  | nil => rw [h] at this; cases this
  | cons m r => exact ⟨m, rfl⟩
theorem piece_len (d : Dia) (c : Nat) : (pieceOf d c).length ≤ d.cross.length := by
  have := List.length_filter_le (connB d c) (List.range d.cross.length); rwa [List.length_range] at this
theorem piece_sorted (d : Dia) (c : Nat) : (pieceOf d c).Pairwise (· < ·) := List.Pairwise.sublist List.filter_sublist List.pairwise_lt_range
theorem piece_head_le {d : Dia} {c m x : Nat} (hm : (pieceOf d c)[0]? = some m) (hx : x ∈ pieceOf d c) : m ≤ x := by
  have hs := piece_sorted d c
  cases h : pieceOf d c with
  | nil => rw [h] at hx; cases hx
  | cons y r =>
    rw [h] at hm hx hs
    simp at hm; subst hm
    rcases List.mem_cons.1 hx with rfl | hx
    · exact Nat.le_refl _
    · exact Nat.le_of_lt (List.rel_of_pairwise_cons hs hx)
theorem planar_other {d : Dia} (hs : SoundP d) {c m : Nat} (hc : c < d.cross.length) (hm : (pieceOf d c)[0]? = some m) (h : ∀ c', c' < c → cntReg d c' = (pieceOf d c').length + 2) (hne : (m : Int) ≠ (c : Int)) : cntReg d c = (pieceOf d c).length + 2 := by
  have h1 := piece_head_le hm (piece_self hc)
  have h2 := mem_piece.1 (List.mem_of_getElem? hm)
  rw [cntReg_congr hs hc h2.2, piece_congr hs hc h2.2]
  exact h m (by omega)
theorem regs_head {d : Dia} {Q : Nat} {rs : List (Value × List Nat)} (hr : rs.map Prod.snd = regsTo d Q) (hQ : Q ≤ 4 * d.cross.length) {a : Value × List Nat} (ha : a ∈ rs) : a.2.headD 0 / 4 < d.cross.length ∧ a.2[0]? = some (a.2.headD 0) := by
  obtain ⟨q, hq, e⟩ := regsTo_mem d Q a.2 (by rw [← hr]; exact List.mem_map_of_mem ha)
  obtain ⟨h1, h2⟩ := regionOf_head (d := d) (q := q) (by omega)
  rw [e, h1]
  refine ⟨by omega, ?_⟩
  cases hl : regionOf d q with
  | nil => rw [hl] at h2; simp at h2
  | cons x r => rw [hl] at h1; simp at h1; simp [h1]
theorem piece_has {d : Dia} {c x : Nat} (hx : x < d.cross.length) : (pieceOf d c).contains x = connB d c x := by
  cases h : connB d c x
  · refine Bool.eq_false_iff.2 fun h2 => ?_
    have := (mem_piece.1 (List.contains_iff_mem.1 h2)).2
    rw [connB_iff.2 this] at h; cases h
  · exact List.contains_iff_mem.2 (mem_piece.2 ⟨hx, connB_iff.1 h⟩)
theorem take_has {l : List Nat} {k y x : Nat} (hy : l[k]? = some y) : (l.take (k + 1)).contains x = ((l.take k).contains x || decide (x = y)) := by
  rw [List.take_add_one, hy, List.contains_eq_mem, List.contains_eq_mem]; simp [Bool.decide_or]
theorem take_fresh {l : List Nat} (hn : l.Nodup) {k y x : Nat} (hy : l[k]? = some y) (e : x = y) : (l.take k).contains x = false := by
  subst e
  refine Bool.eq_false_iff.2 fun h => ?_
  obtain ⟨i, hi⟩ := List.getElem?_of_mem (List.contains_iff_mem.1 h)
  have hik : i < k := by have := (List.getElem?_eq_some_iff.1 hi).1; simp at this; omega
  rw [List.getElem?_take_of_lt hik] at hi
  obtain ⟨h1, e1⟩ := (List.getElem?_eq_some_iff.1 hi)
  obtain ⟨h2, e2⟩ := (List.getElem?_eq_some_iff.1 hy)
  exact (List.pairwise_iff_getElem.1 (List.nodup_iff_pairwise_ne.1 hn)) i k h1 h2 hik (e1.trans e2.symm)
theorem cntReg_rs {d : Dia} {rs : List (Value × List Nat)} (hr : rs.map Prod.snd = regsOf d) (c : Nat) : cntReg d c = (rs.filter fun a => connB d c (a.2.headD 0 / 4)).length := by
  rw [cntReg, ← hr, List.filter_map, List.length_map]; rfl
noncomputable def planarB (d : Dia) : Bool := @decide (PlanarP d) (Classical.propDecidable _)
theorem planarB_true {d : Dia} (h : PlanarP d) : Value.bool true = .bool (planarB d) := congrArg Value.bool (@decide_eq_true _ (Classical.propDecidable _) h).symm
theorem planarB_false {d : Dia} (h : ¬ PlanarP d) : Value.bool false = .bool (planarB d) := congrArg Value.bool (@decide_eq_false _ (Classical.propDecidable _) h).symm
theorem planarB_iff {d : Dia} : planarB d = true ↔ PlanarP d := @decide_eq_true_iff _ (Classical.propDecidable _)
/-- What Check answers: 0, 220 or 221. -/
noncomputable def checkI (d : Dia) : Int := bif soundB d then (bif planarB d then 0 else 221) else 220
end Go.V
/- The proof layer, part h: maps that the call owns, with keys of a known make. -/
namespace Go.V
open Go
/-- Keys of one type, as they lie in Lean. -/
structure MKey (P : Program) (kt : TypeId) {κ : Type} [DecidableEq κ] (enc : κ → Value) : Prop where
  check : ∀ (e : Bool) k w, (Instr.checkKey e 10000 kt (enc k)).run P w = .ok () w
  eq : ∀ k k' w, (Op.equal kt (enc k) (enc k')).run P w = .ok (decide (k = k')) w
  now : ∃ d, P.underlying kt = some d ∧ ∀ k k', Instr.sameNow d (enc k) (enc k') = none ∨ Instr.sameNow d (enc k) (enc k') = some (decide (k = k'))
  same : ∀ k, Instr.sameBits 10000 (enc k) (enc k) = true
section plain
variable {κ : Type} [DecidableEq κ]
def mget : List (κ × Value) → κ → Option Value
  | [], _ => none
  | p :: r, k => if p.1 = k then some p.2 else mget r k
def mput : List (κ × Value) → κ → Value → List (κ × Value)
  | [], k, v => [(k, v)]
  | p :: r, k, v => if p.1 = k then (k, v) :: r else p :: mput r k v
def mfind : List (κ × Value) → κ → Nat → Option (Nat × Value)
  | [], _, _ => none
  | p :: r, k, i => if k = p.1 then some (i, p.2) else mfind r k (i + 1)
theorem mget_mput (l : List (κ × Value)) (k k' : κ) (v : Value) : mget (mput l k v) k' = if k = k' then some v else mget l k' := by
  induction l with
  | nil => simp only [mput, mget]
  | cons p r ih =>
    simp only [mput]
    split
    · rename_i e; simp only [mget, e]; split <;> rfl
    · rename_i e
      simp only [mget, ih]
      by_cases h : p.1 = k'
      · have : ¬ k = k' := fun h2 => e (h.trans h2.symm)
        simp [h, this]
      · simp [h]
theorem mfind_get (l : List (κ × Value)) (k : κ) : ∀ i, (mfind l k i).map (·.2) = mget l k := by
  induction l with
  | nil => intro i; rfl
  | cons p r ih =>
    intro i
    simp only [mfind, mget]
    by_cases h : p.1 = k
    · simp [h]
    · have : ¬ k = p.1 := fun e => h e.symm
      simp [h, this, ih]
theorem mput_new {l : List (κ × Value)} {k : κ} {v : Value} (h : mget l k = none) : mput l k v = l ++ [(k, v)] := by
  induction l with
  | nil => rfl
  | cons p r ih =>
    simp only [mget] at h
    split at h
    · cases h
    · rename_i e; simp only [mput, if_neg e, ih h, List.cons_append]
def Ents (enc : κ → Value) (es : List MapEntry) (l : List (κ × Value)) : Prop := es.map (fun e => (e.key, e.val)) = l.map fun p => (enc p.1, p.2)
theorem Ents.nil {τ : Type} {enc : τ → Value} : Ents enc [] [] := rfl
theorem Ents.cons {τ : Type} {enc : τ → Value} {e : MapEntry} {es : List MapEntry} {p : τ × Value} {l : List (τ × Value)} : Ents enc (e :: es) (p :: l) ↔ (e.key = enc p.1 ∧ e.val = p.2) ∧ Ents enc es l := by
  simp only [Ents, List.map_cons, List.cons.injEq, Prod.mk.injEq]
theorem findAsking_run {P : Program} {kt : TypeId} {enc : κ → Value} (hk : MKey P kt enc) (k : κ) : ∀ (es : List MapEntry) (l : List (κ × Value)) (i : Nat) (w : World), Ents enc es l → (Instr.findAsking kt (enc k) es i).run P w = .ok (mfind l k i) w
  | [], [], i, w, _ => by simp [Instr.findAsking, mfind]
  | [], _ :: _, _, _, h => by simp [Ents] at h
  | _ :: _, [], _, _, h => by simp [Ents] at h
  | e :: es, p :: l, i, w, h => by
    obtain ⟨⟨h1, h2⟩, h3⟩ := Ents.cons.1 h
    have ih := findAsking_run hk k es l (i + 1) w h3
    simp only [Instr.findAsking, h1, Sem.run_bind, hk.eq, Result.andThen_ok, mfind]
    by_cases e : k = p.1
    · simp [e, h2]
    · simp [e, ih]
theorem findNow_run {enc : κ → Value} {d : TypeDesc} (hn : ∀ k k', Instr.sameNow d (enc k) (enc k') = none ∨ Instr.sameNow d (enc k) (enc k') = some (decide (k = k'))) (k : κ) : ∀ (es : List MapEntry) (l : List (κ × Value)) (i : Nat), Ents enc es l → Instr.findNow d (enc k) es i = none ∨ Instr.findNow d (enc k) es i = some (mfind l k i)
  | [], [], i, _ => .inr rfl
  | [], _ :: _, _, h => by simp [Ents] at h
  | _ :: _, [], _, h => by simp [Ents] at h
  | e :: es, p :: l, i, h => by
    obtain ⟨⟨h1, h2⟩, h3⟩ := Ents.cons.1 h
    have ih := findNow_run hn k es l (i + 1) h3
    simp only [Instr.findNow, h1, mfind]
    rcases hn k p.1 with e | e
    · simp [e]
    · by_cases e2 : k = p.1
      · rw [e]; simp [e2, h2]
      · rw [e]; simp [e2, ih]
theorem findKey_run {P : Program} {kt : TypeId} {enc : κ → Value} (hk : MKey P kt enc) (k : κ) {es : List MapEntry} {l : List (κ × Value)} (w : World) (h : Ents enc es l) : (Instr.findKey kt (enc k) es).run P w = .ok (mfind l k 0) w := by
  obtain ⟨d, hd, hn⟩ := hk.now
  simp only [Instr.findKey, Sem.run_bind, run_underlying hd, Result.andThen_ok]
  rcases findNow_run hn k es l 0 h with e | e
  · simp [e, findAsking_run hk k es l 0 w h]
  · simp [e]
theorem mfind_bound {l : List (κ × Value)} {k : κ} : ∀ {i j : Nat} {v : Value}, mfind l k i = some (j, v) → i ≤ j ∧ ∃ p, l[j - i]? = some p ∧ p.1 = k := by
  induction l with
  | nil => intro i j v h; simp [mfind] at h
  | cons p r ih =>
    intro i j v h
    simp only [mfind] at h
    split at h
    · rename_i e; simp at h; obtain ⟨rfl, _⟩ := h; exact ⟨Nat.le_refl _, p, by simp, e.symm⟩
    · obtain ⟨h1, q, hq, e⟩ := ih h
      exact ⟨by omega, q, by rw [show j - i = (j - (i + 1)) + 1 by omega]; simpa using hq, e⟩
theorem ents_modify {enc : κ → Value} {k : κ} {v : Value} {f : MapEntry → MapEntry} (hf : ∀ e, (f e).key = enc k ∧ (f e).val = v) : ∀ {es : List MapEntry} {l : List (κ × Value)} {i j : Nat} {u : Value}, Ents enc es l → mfind l k i = some (j, u) → Ents enc (es.modify (j - i) f) (mput l k v)
  | [], [], _, _, _, _, hm => by simp [mfind] at hm
  | [], _ :: _, _, _, _, h, _ => by simp [Ents] at h
  | _ :: _, [], _, _, _, h, _ => by simp [Ents] at h
  | e :: es, p :: l, i, j, u, h, hm => by
    obtain ⟨⟨h1, h2⟩, h3⟩ := Ents.cons.1 h
    simp only [mfind] at hm
    by_cases e2 : k = p.1
    · rw [if_pos e2] at hm
      simp at hm
      obtain ⟨rfl, _⟩ := hm
      simp only [Nat.sub_self, mput, if_pos e2.symm, List.modify_zero_cons]
      exact Ents.cons.2 ⟨hf e, h3⟩
    · rw [if_neg e2] at hm
      have hb := mfind_bound hm
      rw [show j - i = (j - (i + 1)) + 1 by omega]
      have e3 : ¬ p.1 = k := fun x => e2 x.symm
      simp only [mput, if_neg e3, List.modify_succ_cons]
      exact Ents.cons.2 ⟨⟨h1, h2⟩, ents_modify hf h3 hm⟩
theorem ents_push {enc : κ → Value} {k : κ} {v : Value} {e : MapEntry} (he : e.key = enc k ∧ e.val = v) {es : List MapEntry} {l : List (κ × Value)} (h : Ents enc es l) (hm : mget l k = none) : Ents enc (es ++ [e]) (mput l k v) := by
  rw [mput_new hm]
  simp only [Ents, List.map_append, List.map_cons, List.map_nil] at h ⊢
  rw [h, he.1, he.2]
/-- Block b is a map with these entries. -/
def HL.mp (b : Nat) (enc : κ → Value) (l : List (κ × Value)) : HL :=
  ⟨fun c => c = b, fun w => ∃ es clock, w.heap[b]? = some (.map es clock) ∧ Ents enc es.toList l, fun _ _ h ⟨es, cl, h1, h2⟩ => ⟨es, cl, (h b rfl).trans h1, h2⟩⟩
theorem Sym.obj_mp {τ : Type} {w0 w : World} {S : Nat → Prop} {L : List HL} {b : Nat} (enc : τ → Value) (hs : Sym w0 S (HL.obj b (.map #[] 0) :: L) w) : Sym w0 S (HL.mp b enc [] :: L) w :=
  ⟨hs.old, fun h hm => by
    rcases List.mem_cons.1 hm with rfl | hm
    · exact ⟨#[], 0, hs.holds _ (List.mem_cons_self ..), rfl⟩
    · exact hs.holds h (List.mem_cons_of_mem _ hm),
   fun h hm b' hb => by
    rcases List.mem_cons.1 hm with rfl | hm
    · exact hs.supp _ (List.mem_cons_self ..) b' hb
    · exact hs.supp h (List.mem_cons_of_mem _ hm) b' hb,
   by have := List.pairwise_cons.1 hs.apart; exact List.pairwise_cons.2 ⟨this.1, this.2⟩⟩
end plain
section ops
variable {C : Cx} {F : Fr} {L : List HL} {o : Oper} {κ : Type} [DecidableEq κ]
theorem Grows.makeMapK {τ : Type} {t : TypeId} (enc : τ → Value) (ho : o.op = .makeMap t none) : Grows C o F L (fun _ : Nat => True) (fun b => .map (some b)) (fun b => [HL.mp b enc []]) := fun a w ok next Q h =>
  Grows.makeMap ho a w ok next Q fun g w' hφ hold hs => h g w' hφ hold (Sym.obj_mp enc hs)
theorem lookup_run {P : Program} {w : World} {t kt et : TypeId} {b : Nat} {enc : κ → Value} {l : List (κ × Value)} {z : Value} (k : κ) (hm : (HL.mp b enc l).holds w) (ht : P.underlying t = some (.map kt et)) (hk : MKey P kt enc) (hz : ∀ w, (zeroValue et).run P w = .ok z w) (q : Bool) :
    (Instr.lookup t (.map (some b)) (enc k) q).run P w = .ok (if q then .tuple #[(mget l k).getD z, .bool (mget l k).isSome] else (mget l k).getD z) w := by
  obtain ⟨es, clock, hb, he⟩ := hm
  have hf := findKey_run hk k w he
  have hg := mfind_get l k 0
  simp only [Instr.lookup, Sem.run_bind, run_underlying ht, MapKept.run_getObj_map hb, Result.andThen_ok, Sem.run_pure, hk.check, hf]
  rw [← hg]
  cases hc : mfind l k 0 with
  | none => cases q <;> simp [hz]
  | some p => cases q <;> simp
theorem Still.lookup2 {t kt et : TypeId} {x y : Operand} {i b : Nat} {enc : κ → Value} {l : List (κ × Value)} {z : Value} (k : κ) (ho : o.op = .lookup t x y true) (hx : F.ev x = some (.map (some b))) (hy : F.ev y = some (enc k)) (hi : L[i]? = some (HL.mp b enc l)) (ht : C.P.underlying t = some (.map kt et))
    (hk : MKey C.P kt enc) (hz : ∀ w, (zeroValue et).run C.P w = .ok z w) {v : Value} {s : Bool} (hv : (mget l k).getD z = v) (hs : (mget l k).isSome = s) : Still C o F L (.tuple #[v, .bool s]) :=
  ⟨fun c h => (by rw [ho] at h; cases h), fun a w ok => by
    subst hv; subst hs
    have := lookup_run k (ok.sym.at hi) ht hk hz true
    simp only [execOp, ho, ok.fr.ev hx, ok.fr.ev hy]; simp at this ⊢; simp [this]⟩
theorem Still.lookup1 {t kt et : TypeId} {x y : Operand} {i b : Nat} {enc : κ → Value} {l : List (κ × Value)} {z : Value} (k : κ) (ho : o.op = .lookup t x y false) (hx : F.ev x = some (.map (some b))) (hy : F.ev y = some (enc k)) (hi : L[i]? = some (HL.mp b enc l)) (ht : C.P.underlying t = some (.map kt et))
    (hk : MKey C.P kt enc) (hz : ∀ w, (zeroValue et).run C.P w = .ok z w) {v : Value} (hv : (mget l k).getD z = v) : Still C o F L v :=
  ⟨fun c h => (by rw [ho] at h; cases h), fun a w ok => by
    subst hv
    have := lookup_run k (ok.sym.at hi) ht hk hz false
    simp only [execOp, ho, ok.fr.ev hx, ok.fr.ev hy]; simp at this ⊢; simp [this]⟩
theorem Does.mapUpdate {t kt et : TypeId} {x y z : Operand} {i b : Nat} {enc : κ → Value} {l : List (κ × Value)} {v : Value} (k : κ) (ho : o.op = .mapUpdate t x y z) (hx : F.ev x = some (.map (some b))) (hy : F.ev y = some (enc k)) (hv : F.ev z = some v) (hi : L[i]? = some (HL.mp b enc l)) (ht : C.P.underlying t = some (.map kt et))
    (hk : MKey C.P kt enc) : Does C o F L (fun _ : Unit => True) (fun _ => undef) (fun _ => L.set i (HL.mp b enc (mput l k v))) := fun a w ok next Q h => by
  obtain ⟨es, clock, hb, he⟩ := ok.sym.at hi
  have hf := findKey_run hk k w he
  have hlt : b < w.heap.size := (ok.sym.supp _ (List.mem_of_getElem? hi) b rfl).1
  have key : ∀ (ob : Obj), (∃ es cl, ob = .map es cl ∧ Ents enc es.toList (mput l k v)) → Sym C.w0 C.S (L.set i (HL.mp b enc (mput l k v))) { w with heap := w.heap.setIfInBounds b ob } := by
    rintro ob ⟨es', cl', rfl, he'⟩
    refine ok.sym.turn hi (fun c hc => ⟨.inl hc, by have e : c = b := hc; subst e; simpa using hlt⟩) ⟨rfl, rfl, rfl, by simp, fun j _ hj => ?_, fun _ => Nat.le_refl _⟩ ⟨es', cl', by simp [hlt], he'⟩
    have : b ≠ j := fun e => hj e.symm
    simp [this]
  have hst : (Instr.keyThatStays (enc k) (enc k)).run C.P w = .ok (enc k) w := by simp [Instr.keyThatStays, hk.same]
  cases hc : mfind l k 0 with
  | none =>
    refine wpIn_skip' (fun c h => (by rw [ho] at h; cases h)) (w' := { w with heap := w.heap.setIfInBounds b (.map (es.push { key := enc k, val := v, born := clock }) (clock + 1)) }) ?_ (h () _ trivial (key _ ⟨_, _, rfl, ?_⟩))
    · simp only [execOp, ho, ok.fr.ev hx, ok.fr.ev hy, ok.fr.ev hv]
      simp [Instr.mapUpdate, run_underlying ht, MapKept.run_getObj_map hb, hk.check, hf, hc, MapKept.run_setObj_map _ hb]
    · rw [Array.toList_push]
      exact ents_push (enc := enc) (k := k) (v := v) ⟨rfl, rfl⟩ he (by rw [← mfind_get l k 0, hc]; rfl)
  | some p =>
    obtain ⟨j, u⟩ := p
    obtain ⟨_, q, hq, e⟩ := mfind_bound hc
    have hkey : ((es[j]?).map (·.key)).getD (enc k) = enc k := by
      have h1 := congrArg (fun l => l[j]?) he
      simp only [List.getElem?_map, Array.getElem?_toList] at h1
      simp only [Nat.sub_zero] at hq
      rw [hq] at h1
      cases hej : es[j]? with
      | none => rfl
      | some en => rw [hej] at h1; simp at h1; simp [h1.1, e]
    refine wpIn_skip' (fun c h => (by rw [ho] at h; cases h)) (w' := { w with heap := w.heap.setIfInBounds b (.map (es.modify j fun e => { e with key := enc k, val := v }) clock) }) ?_ (h () _ trivial (key _ ⟨_, _, rfl, ?_⟩))
    · simp only [execOp, ho, ok.fr.ev hx, ok.fr.ev hy, ok.fr.ev hv]
      simp [Instr.mapUpdate, run_underlying ht, MapKept.run_getObj_map hb, hk.check, hf, hc, hkey, hst, MapKept.run_setObj_map _ hb]
    · rw [Array.toList_modify]
      have := ents_modify (v := v) (f := fun e => { e with key := enc k, val := v }) (fun e => ⟨rfl, rfl⟩) he hc
      simpa using this
end ops
theorem eq_bool {P : Program} {t : TypeId} (h : P.underlying t = some .bool) (d : Nat) (a b : Bool) (w : World) : (Op.equalIn (d + 1) t (.bool a) (.bool b)).run P w = .ok (decide (a = b)) w := by
  unfold Op.equalIn
  simp [run_underlying h, Bool.beq_eq_decide_eq]
theorem eq_int_bool {P : Program} {t : TypeId} {f0 f1 : Field} {k : IntKind} (ht : P.underlying t = some (.struct #[f0, f1])) (hp : P.stoodInHeld t = false) (h0 : P.underlying f0.type = some (.int k)) (h1 : P.underlying f1.type = some .bool)
    (n0 : f0.name ≠ "_") (n1 : f1.name ≠ "_") (o0 : f0.offset = 0) (o1 : f1.offset = 1) (d : Nat) (a : Int) (b : Bool) (a' : Int) (b' : Bool) (w : World) :
    (Op.equalIn (d + 2) t (.agg #[.int k a, .bool b]) (.agg #[.int k a', .bool b'])).run P w = .ok (decide (a = a' ∧ b = b')) w := by
  have hf : P.fieldsOf t = #[f0, f1] := by simp [Program.fieldsOf, ht]
  have i0 : ∀ w, (isAgg f0.type).run P w = .ok false w := fun w => by simp [isAgg, run_underlying h0]
  have i1 : ∀ w, (isAgg f1.type).run P w = .ok false w := fun w => by simp [isAgg, run_underlying h1]
  rw [run_equalIn_struct w (d + 1) t _ _ (by rw [hf]; exact ht) hp, hf]
  simp [Op.eqFields, n0, n1, part, i0, i1, o0, o1, eq_int h0, eq_bool h1]
  by_cases e0 : a = a' <;> by_cases e1 : b = b' <;> simp [e0, e1]
theorem check_prim {P : Program} {t : TypeId} {d : TypeDesc} (h : P.underlying t = some d) (hd : (∃ k, d = .int k) ∨ d = .bool) (e : Bool) (n : Nat) (v : Value) (w : World) : (Instr.checkKey e (n + 1) t v).run P w = .ok () w := by
  unfold Instr.checkKey
  simp only [Sem.run_bind, run_underlying h, Result.andThen_ok]
  rcases hd with ⟨k, rfl⟩ | rfl <;> cases v <;> simp
theorem check_two {P : Program} {t : TypeId} {f0 f1 : Field} {d0 d1 : TypeDesc} (ht : P.underlying t = some (.struct #[f0, f1])) (h0 : P.underlying f0.type = some d0) (h1 : P.underlying f1.type = some d1) (k0 : (∃ k, d0 = .int k) ∨ d0 = .bool) (k1 : (∃ k, d1 = .int k) ∨ d1 = .bool)
    (n0 : f0.name ≠ "_") (n1 : f1.name ≠ "_") (o0 : f0.offset = 0) (o1 : f1.offset = 1) (e : Bool) (n : Nat) (u v : Value) (w : World) : (Instr.checkKey e (n + 2) t (.agg #[u, v])).run P w = .ok () w := by
  have i0 : ∀ w, (isAgg f0.type).run P w = .ok false w := fun w => by rcases k0 with ⟨k, rfl⟩ | rfl <;> simp [isAgg, run_underlying h0]
  have i1 : ∀ w, (isAgg f1.type).run P w = .ok false w := fun w => by rcases k1 with ⟨k, rfl⟩ | rfl <;> simp [isAgg, run_underlying h1]
  have c0 := fun w => check_prim h0 k0 e n u w
  have c1 := fun w => check_prim h1 k1 e n v w
  unfold Instr.checkKey
  simp [run_underlying ht, n0, n1, part, i0, i1, o0, o1, c0, c1, Sem.run_bind, Result.andThen_ok]
def encU (u : Int × Bool) : Value := .agg #[.int .i64 u.1, .bool u.2]
def encE (u : Int × Int) : Value := .agg #[.int .i64 u.1, .int .i64 u.2]
def encI (u : Int) : Value := .int .i64 u
theorem MKey.intBool {P : Program} {t : TypeId} {f0 f1 : Field} (ht : P.underlying t = some (.struct #[f0, f1])) (hp : P.stoodInHeld t = false) (h0 : P.underlying f0.type = some (.int .i64)) (h1 : P.underlying f1.type = some .bool)
    (n0 : f0.name ≠ "_") (n1 : f1.name ≠ "_") (o0 : f0.offset = 0) (o1 : f1.offset = 1) : MKey P t encU where
  check e k w := check_two ht h0 h1 (.inl ⟨_, rfl⟩) (.inr rfl) n0 n1 o0 o1 e 9998 _ _ w
  eq k k' w := by
    rw [show decide (k = k') = decide (k.1 = k'.1 ∧ k.2 = k'.2) from decide_eq_decide.2 Prod.ext_iff]
    exact eq_int_bool ht hp h0 h1 n0 n1 o0 o1 9998 _ _ _ _ w
  now := ⟨_, ht, fun k k' => .inl rfl⟩
  same k := by simp [encU, Instr.sameBits]
theorem MKey.intInt {P : Program} {t : TypeId} {f0 f1 : Field} (ht : P.underlying t = some (.struct #[f0, f1])) (hp : P.stoodInHeld t = false) (h0 : P.underlying f0.type = some (.int .i64)) (h1 : P.underlying f1.type = some (.int .i64))
    (n0 : f0.name ≠ "_") (n1 : f1.name ≠ "_") (o0 : f0.offset = 0) (o1 : f1.offset = 1) : MKey P t encE where
  check e k w := check_two ht h0 h1 (.inl ⟨_, rfl⟩) (.inl ⟨_, rfl⟩) n0 n1 o0 o1 e 9998 _ _ w
  eq k k' w := by
    rw [show decide (k = k') = decide (k.1 = k'.1 ∧ k.2 = k'.2) from decide_eq_decide.2 Prod.ext_iff]
    exact eq_two ht hp h0 h1 n0 n1 o0 o1 9998 _ _ _ _ w
  now := ⟨_, ht, fun k k' => .inl rfl⟩
  same k := by simp [encE, Instr.sameBits]
theorem MKey.int {P : Program} {t : TypeId} (ht : P.underlying t = some (.int .i64)) : MKey P t encI where
  check e k w := check_prim ht (.inl ⟨_, rfl⟩) e 9999 _ w
  eq k k' w := eq_int ht 9999 _ _ w
  now := ⟨_, ht, fun k k' => .inr (by simp [Instr.sameNow, encI, Bool.beq_eq_decide_eq])⟩
  same k := by simp [encI, Instr.sameBits]
end Go.V
/- Diagrams as data, part c: the ends of arcs, as the program keeps them. -/
namespace Go.V
open Go
def plV (q : Nat) : Value := .agg #[iv ((q / 4 : Nat) : Int), iv ((q % 4 : Nat) : Int)]
def keyQ (d : Dia) (q : Nat) : Int × Bool := (arcQ d q, !innQ d q)
def metTo (d : Dia) (Q : Nat) : List ((Int × Bool) × Value) := (List.range Q).map fun q => (keyQ d q, plV q)
theorem mget_map {κ : Type} [DecidableEq κ] {α : Type} (f : α → κ) (g : α → Value) (k : κ) : ∀ l : List α, mget (l.map fun q => (f q, g q)) k = (l.find? fun q => decide (f q = k)).map g
  | [] => rfl
  | q :: r => by
    simp only [List.map_cons, mget, List.find?_cons]
    by_cases h : f q = k
    · simp [h]
    · simp [h, mget_map f g k r]
theorem find_congr {α : Type} {f g : α → Bool} : ∀ {l : List α}, (∀ x ∈ l, f x = g x) → l.find? f = l.find? g
  | [], _ => rfl
  | x :: r, h => by
    rw [List.find?_cons, List.find?_cons, h x (List.mem_cons_self ..), find_congr fun y hy => h y (List.mem_cons_of_mem _ hy)]
theorem mget_met {d : Dia} {Q : Nat} (hQ : Q ≤ 4 * d.cross.length) (a : Int) (o : Bool) : mget (metTo d Q) (a, o) = ((List.range Q).find? (matchAt d a (!o))).map plV := by
  rw [metTo, mget_map]
  congr 1
  refine find_congr fun q hq => ?_
  have hq : q < 4 * d.cross.length := by have := List.mem_range.1 hq; omega
  rw [Bool.eq_iff_iff, matchAt_iff hq, decide_eq_true_iff, keyQ, Prod.mk.injEq]
  cases o <;> cases innQ d q <;> simp
def rC : Option Nat → Int
  | some q => ((q / 4 : Nat) : Int)
  | none => 0
def rP : Option Nat → Int
  | some q => ((q % 4 : Nat) : Int)
  | none => 0
def metAt (d : Dia) (Q : Nat) (a : Int) (o : Bool) : Option Nat := (List.range Q).find? (matchAt d a (!o))
theorem met_val {d : Dia} {Q : Nat} (hQ : Q ≤ 4 * d.cross.length) (a : Int) (o : Bool) : (mget (metTo d Q) (a, o)).getD (.agg #[iv 0, iv 0]) = .agg #[iv (rC (metAt d Q a o)), iv (rP (metAt d Q a o))] := by
  rw [mget_met hQ, metAt]
  cases (List.range Q).find? (matchAt d a (!o)) <;> rfl
theorem met_is {d : Dia} {Q : Nat} (hQ : Q ≤ 4 * d.cross.length) (a : Int) (o : Bool) : (mget (metTo d Q) (a, o)).isSome = (metAt d Q a o).isSome := by
  rw [mget_met hQ, metAt]; cases (List.range Q).find? (matchAt d a (!o)) <;> rfl
theorem metAt_some {d : Dia} {Q : Nat} (hQ : Q ≤ 4 * d.cross.length) {a : Int} {o : Bool} (h : (metAt d Q a o).isSome = true) : ∃ q, q < Q ∧ arcQ d q = a ∧ innQ d q = !o := by
  obtain ⟨q, hq⟩ := Option.isSome_iff_exists.1 h
  have h1 := List.mem_range.1 (List.mem_of_find?_eq_some hq)
  have h2 := List.find?_some hq
  exact ⟨q, h1, (matchAt_iff (by omega)).1 h2⟩
theorem metAt_none {d : Dia} {Q : Nat} (hQ : Q ≤ 4 * d.cross.length) {a : Int} {o : Bool} (h : (metAt d Q a o).isSome = false) {q : Nat} (hq : q < Q) : ¬ (arcQ d q = a ∧ innQ d q = !o) := fun k => by
  have h1 : metAt d Q a o = none := by simpa using h
  rw [metAt, List.find?_eq_none] at h1
  exact h1 q (List.mem_range.2 hq) ((matchAt_iff (by omega)).2 k)
theorem arcQ_at {d : Dia} {c p : Nat} {x : Cr} (hx : d.cross[c]? = some x) (hp : p < 4) : arcQ d (4 * c + p) = x.arc p := by
  rw [arcQ, show (4 * c + p) / 4 = c by omega, show (4 * c + p) % 4 = p by omega, crAt_eq hx]
theorem innQ_at {d : Dia} {c p : Nat} {x : Cr} (hx : d.cross[c]? = some x) (hp : p < 4) : innQ d (4 * c + p) = x.inn p := by
  rw [innQ, show (4 * c + p) / 4 = c by omega, show (4 * c + p) % 4 = p by omega, crAt_eq hx]
theorem met_next {d : Dia} {c p : Nat} {x : Cr} (hx : d.cross[c]? = some x) (hp : p < 4) (hn : (metAt d (4 * c + p) (x.arc p) (!x.inn p)).isSome = false) :
    mput (metTo d (4 * c + p)) (x.arc p, !x.inn p) (.agg #[iv c, iv p]) = metTo d (4 * c + (p + 1)) := by
  have hc := (List.getElem?_eq_some_iff.1 hx).1
  rw [← met_is (by omega)] at hn
  rw [mput_new (by simpa using hn)]
  rw [show 4 * c + (p + 1) = 4 * c + p + 1 by omega, metTo, metTo, List.range_succ, List.map_append, List.map_cons, List.map_nil, keyQ, arcQ_at hx hp, innQ_at hx hp, plV,
    show (4 * c + p) / 4 = c by omega, show (4 * c + p) % 4 = p by omega]
/-- The first Q places use arcs in range, each one once each way. -/
def UseOk (d : Dia) (Q : Nat) : Prop := (∀ q, q < Q → 0 ≤ arcQ d q ∧ arcQ d q < 2 * d.cross.length) ∧ ∀ q q', q < q' → q' < Q → arcQ d q = arcQ d q' → innQ d q = innQ d q' → False
theorem UseOk.zero (d : Dia) : UseOk d 0 := ⟨fun q h => by omega, fun q q' h h' => by omega⟩
theorem UseOk.next {d : Dia} {c p : Nat} {x : Cr} (h : UseOk d (4 * c + p)) (hx : d.cross[c]? = some x) (hp : p < 4) (hn : (metAt d (4 * c + p) (x.arc p) (!x.inn p)).isSome = false) (h0 : 0 ≤ x.arc p) (h1 : x.arc p < 2 * d.cross.length) : UseOk d (4 * c + (p + 1)) := by
  have hc := (List.getElem?_eq_some_iff.1 hx).1
  refine ⟨fun q hq => ?_, fun q q' hqq hq ha hi => ?_⟩
  · rcases Nat.lt_or_ge q (4 * c + p) with h2 | h2
    · exact h.1 q h2
    · obtain rfl : q = 4 * c + p := by omega
      rw [arcQ_at hx hp]; exact ⟨h0, h1⟩
  · rcases Nat.lt_or_ge q' (4 * c + p) with h2 | h2
    · exact h.2 q q' hqq h2 ha hi
    · obtain rfl : q' = 4 * c + p := by omega
      rw [arcQ_at hx hp] at ha
      rw [innQ_at hx hp] at hi
      exact metAt_none (by omega) hn hqq ⟨ha, by rw [hi, Bool.not_not]⟩
theorem nodup_one {α : Type} {l : List α} (hn : l.Nodup) (h : ∀ x ∈ l, ∀ y ∈ l, x = y) : l.length ≤ 1 := by
  match l, hn, h with
  | [], _, _ => simp
  | [_], _, _ => simp
  | x :: y :: r, hn, h =>
    have e := h x (by simp) y (by simp)
    subst e
    simp at hn
theorem useOk_count {d : Dia} (h : UseOk d (4 * d.cross.length)) {a : Nat} (ha : a < 2 * d.cross.length) (inn : Bool) : cnt d (a : Int) inn (4 * d.cross.length) = 1 := by
  have hle : cnt d (a : Int) inn (4 * d.cross.length) ≤ 1 := by
    refine nodup_one (List.Nodup.sublist List.filter_sublist List.nodup_range) fun q hq q' hq' => ?_
    rw [List.mem_filter, List.mem_range] at hq hq'
    have h1 := (matchAt_iff hq.1).1 hq.2
    have h2 := (matchAt_iff hq'.1).1 hq'.2
    rcases Nat.lt_trichotomy q q' with h3 | h3 | h3
    · exact (h.2 q q' h3 hq'.1 (h1.1.trans h2.1.symm) (h1.2.trans h2.2.symm)).elim
    · exact h3
    · exact (h.2 q' q h3 hq.1 (h2.1.trans h1.1.symm) (h2.2.trans h1.2.symm)).elim
  -- all pairs are met
  let K := (List.range (4 * d.cross.length)).map fun q => 2 * (arcQ d q).toNat + (if innQ d q then 1 else 0)
  have hK : K.Nodup := by
    rw [List.nodup_iff_pairwise_ne]
    refine (List.pairwise_map.2 (List.Pairwise.imp_of_mem ?_ List.pairwise_lt_range))
    intro q q' hq hq' hlt e
    have h1 := h.1 q (List.mem_range.1 hq)
    have h2 := h.1 q' (List.mem_range.1 hq')
    refine h.2 q q' hlt (List.mem_range.1 hq') ?_ ?_
    · split at e <;> split at e <;> omega
    · cases hi : innQ d q <;> cases hi' : innQ d q' <;> simp [hi, hi'] at e ⊢ <;> omega
  have hmem : 2 * a + (if inn then 1 else 0) ∈ K := by
    refine Classical.byContradiction fun hno => ?_
    have hsub : K ⊆ (List.range (4 * d.cross.length)).erase (2 * a + (if inn then 1 else 0)) := by
      intro y hy
      have hne : y ≠ 2 * a + (if inn then 1 else 0) := fun e => hno (e ▸ hy)
      rw [List.mem_erase_of_ne hne, List.mem_range]
      obtain ⟨q, hq, rfl⟩ := List.mem_map.1 hy
      have h1 := h.1 q (List.mem_range.1 hq)
      split <;> omega
    have hl := List.Nodup.length_le_of_subset hK hsub
    have hin : 2 * a + (if inn then 1 else 0) ∈ List.range (4 * d.cross.length) := List.mem_range.2 (by split <;> omega)
    rw [List.length_erase_of_mem hin, List.length_range] at hl
    simp only [K, List.length_map, List.length_range] at hl
    omega
  obtain ⟨q, hq, e⟩ := List.mem_map.1 hmem
  have hq := List.mem_range.1 hq
  have h1 := h.1 q hq
  have hm : matchAt d (a : Int) inn q = true := by
    rw [matchAt_iff hq]
    cases hi : innQ d q <;> cases inn <;> simp [hi] at e ⊢ <;> omega
  have : 0 < cnt d (a : Int) inn (4 * d.cross.length) := List.length_pos_of_mem (List.mem_filter.2 ⟨List.mem_range.2 hq, hm⟩)
  omega
theorem sound_of_use {d : Dia} (h0 : d.cross.length ≤ 200) (h1 : 0 ≤ d.loops) (h2 : d.loops ≤ 200) (hs : ∀ (c : Nat) (x : Cr), d.cross[c]? = some x → x.s = 1 ∨ x.s = -1) (h : UseOk d (4 * d.cross.length)) : SoundP d := by
  refine ⟨h0, h1, h2, fun x hx => ?_, fun a ha => ⟨useOk_count h ha false, useOk_count h ha true⟩⟩
  obtain ⟨c, hc⟩ := List.getElem?_of_mem hx
  refine ⟨hs c x hc, fun p hp => ?_⟩
  have hlt := (List.getElem?_eq_some_iff.1 hc).1
  have := h.1 (4 * c + p) (by omega)
  rwa [arcQ_at hc hp] at this
theorem not_sound_twice {d : Dia} {c p : Nat} {x : Cr} (hx : d.cross[c]? = some x) (hp : p < 4) (hn : (metAt d (4 * c + p) (x.arc p) (!x.inn p)).isSome = true) : ¬ SoundP d := fun hs => by
  have hc := (List.getElem?_eq_some_iff.1 hx).1
  obtain ⟨q, hq, ha, hi⟩ := metAt_some (by omega) hn
  have := hs.place_unique (q := q) (q' := 4 * c + p) (by omega) (by omega) (by rw [ha, arcQ_at hx hp]) (by rw [hi, innQ_at hx hp, Bool.not_not])
  omega
abbrev AE := Option Nat × Option Nat
def encAE (x : AE) : List Value := [iv (rC x.1), iv (rP x.1), iv (rC x.2), iv (rP x.2)]
theorem encAE_len (x : AE) : (encAE x).length = 4 := rfl
def endsAt (d : Dia) (i : Nat) : AE := (findEnd d (i : Int) false, findEnd d (i : Int) true)
def endsTo (d : Dia) (a : Nat) : List AE := (List.range (2 * d.cross.length)).map fun i => if i < a then endsAt d i else (none, none)
def endsL (d : Dia) : List AE := (List.range (2 * d.cross.length)).map (endsAt d)
theorem endsTo_len (d : Dia) (a : Nat) : (endsTo d a).length = 2 * d.cross.length := by simp [endsTo]
theorem endsL_get {d : Dia} {a : Nat} (h : a < 2 * d.cross.length) : (endsL d)[a]? = some (endsAt d a) := by simp [endsL, h]
theorem endsTo_all (d : Dia) : endsTo d (2 * d.cross.length) = endsL d := by
  simp only [endsTo, endsL]
  exact List.map_congr_left fun i hi => by rw [if_pos (List.mem_range.1 hi)]
theorem endsTo_set {d : Dia} {a : Nat} (ha : a < 2 * d.cross.length) : (endsTo d a).set a (endsAt d a) = endsTo d (a + 1) := by
  apply List.ext_getElem?
  intro i
  rw [List.getElem?_set, endsTo_len]
  by_cases h : i < 2 * d.cross.length
  · by_cases e : a = i
    · subst e; simp [endsTo, h]
    · simp only [if_neg e, endsTo, List.getElem?_map, List.getElem?_range h, Option.map_some]
      have : (i < a) ↔ (i < a + 1) := by omega
      simp [this]
  · rw [if_neg (by omega), List.getElem?_eq_none (by simp [endsTo_len]; omega), List.getElem?_eq_none (by simp [endsTo_len]; omega)]
theorem flatMap_const {α β : Type} (l : List α) (z : List β) : l.flatMap (fun _ => z) = (List.replicate l.length z).flatten := by
  induction l with
  | nil => rfl
  | cons x r ih => simp [List.flatMap_cons, ih, List.replicate_succ]
theorem endsTo_zero (d : Dia) : (zeros (2 * d.cross.length) [iv 0, iv 0, iv 0, iv 0]).toList = (endsTo d 0).flatMap encAE := by
  rw [endsTo, List.flatMap_map]
  simp only [zeros, Nat.not_lt_zero, if_false]
  rw [flatMap_const, List.length_range]
  rfl
theorem arc_index {x : Cr} {p : Nat} (hp : p < 4) : (#[iv x.a0, iv x.a1, iv x.a2, iv x.a3])[((p : Nat) : Int).toNat]? = some (iv (x.arc p)) := by
  match p, hp with
  | 0, _ => rfl
  | 1, _ => rfl
  | 2, _ => rfl
  | 3, _ => rfl
theorem out_inn {x : Cr} {p : Nat} (hp : p < 4) (hs : x.s = 1 ∨ x.s = -1) : x.inn p = decide (¬ (p = 2 ∨ (p : Int) = 2 - x.s)) := by
  rw [Cr.inn]; apply decide_eq_decide.2; omega
/-- A valid place of the program: the struct 'diagram' in block b. -/
structure DgAt (w : World) (b : Nat) (base : Option Addr) (A : Addr) (cap : Nat) (d : Dia) (av : Value) : Prop where
  c0 : w.cell? ⟨b, 0, none⟩ = some (.slice base d.cross.length cap)
  c1 : w.cell? ⟨b, 1, none⟩ = some (iv d.loops)
  c2 : w.cell? ⟨b, 2, none⟩ = some av
  dia : DiaAt w base A d
  sh : Shape av (2 * d.cross.length)
  arcs : Cells w (vaddr av) ((endsL d).flatMap encAE)
theorem DgAt.old {w w' : World} {b : Nat} {base : Option Addr} {A : Addr} {cap : Nat} {d : Dia} {av : Value} (h : DgAt w b base A cap d av) (ho : Old Nil w w') : DgAt w' b base A cap d av :=
  ⟨ho.cell h.c0 (fun x => x), ho.cell h.c1 (fun x => x), ho.cell h.c2 (fun x => x), h.dia.old ho, h.sh, fun j v hj => ho.cell (h.arcs j v hj) (fun x => x)⟩
theorem DgAt.sym {w w' : World} {L : List HL} {b : Nat} {base : Option Addr} {A : Addr} {cap : Nat} {d : Dia} {av : Value} (h : DgAt w b base A cap d av) (hs : Sym w Nil L w') : DgAt w' b base A cap d av := h.old hs.old
abbrev ptrV (b : Nat) : Value := .pointer (some ⟨b, 0, none⟩)
abbrev plcV (q : Nat) : Value := .agg #[iv ((q / 4 : Nat) : Int), iv ((q % 4 : Nat) : Int)]
theorem SoundP.find_self {d : Dia} (hs : SoundP d) {q : Nat} (hq : q < 4 * d.cross.length) : findEnd d (V.arcQ d q) (innQ d q) = some q := by
  obtain ⟨r, hr⟩ := hs.find (a := (V.arcQ d q).toNat) (by have := hs.arcQ hq; omega) (innQ d q)
  rw [Int.toNat_of_nonneg (hs.arcQ hq).1] at hr
  have h := findEnd_some hr
  rw [hr, hs.place_unique h.1 hq h.2.1 h.2.2.1]
theorem SoundP.ends_at {d : Dia} (hs : SoundP d) {q : Nat} (hq : q < 4 * d.cross.length) : (otherQ d q ≠ q) ∧ ((endsAt d (V.arcQ d q).toNat).1 = some q ∧ (endsAt d (V.arcQ d q).toNat).2 = some (otherQ d q) ∨ (endsAt d (V.arcQ d q).toNat).1 = some (otherQ d q) ∧ (endsAt d (V.arcQ d q).toNat).2 = some q) := by
  have h1 := hs.find_self hq
  have h2 := hs.other hq
  have h3 := (findEnd_some h2).2.2.1
  refine ⟨fun e => by rw [e] at h3; cases h : innQ d q <;> simp [h] at h3, ?_⟩
  simp only [endsAt]
  rw [Int.toNat_of_nonneg (hs.arcQ hq).1]
  cases h : innQ d q
  · rw [h] at h1 h2; exact .inl ⟨h1, h2⟩
  · rw [h] at h1 h2; exact .inr ⟨h2, h1⟩
/-- What 'ends' gives. -/
noncomputable def endsN (d : Dia) : Nat := bif soundB d then 2 * d.cross.length else 0
noncomputable def endsC (d : Dia) : List Value := bif soundB d then (endsL d).flatMap encAE else []
end Go.V
/- Diagrams as data, part d: the pieces as the program numbers them. -/
namespace Go.V
open Go
/-- Some pieces are numbered, wholly. -/
structure PInv (d : Dia) (os : List Int) (k : Nat) : Prop where
  len : os.length = d.cross.length
  lo : ∀ (c : Nat) (x : Int), os[c]? = some x → -1 ≤ x ∧ x < k
  cls : ∀ (c c' : Nat) (x : Int), os[c]? = some x → 0 ≤ x → c' < d.cross.length → (os[c']? = some x ↔ Conn d c c')
  onto : ∀ j : Nat, j < k → ∃ c : Nat, os[c]? = some (j : Int)
theorem PInv.zero (d : Dia) : PInv d (List.replicate d.cross.length (-1)) 0 where
  len := by simp
  lo c x h := by rw [List.getElem?_replicate] at h; split at h <;> simp at h; omega
  cls c c' x h h0 := by rw [List.getElem?_replicate] at h; split at h <;> simp at h; omega
  onto j h := by omega
structure BInv (d : Dia) (os0 os : List Int) (n i : Nat) (qs : List Nat) : Prop where
  len : os.length = d.cross.length
  old : ∀ (c : Nat) (x : Int), os0[c]? = some x → 0 ≤ x → os[c]? = some x
  new : ∀ c : Nat, c ∈ qs ↔ os[c]? = some (n : Int)
  other : ∀ (c : Nat) (x : Int), os[c]? = some x → x ≠ (n : Int) → os0[c]? = some x
  conn : ∀ c ∈ qs, Conn d i c
  nodup : qs.Nodup
  start : i ∈ qs
theorem BInv.begin {d : Dia} {os0 : List Int} {n i : Nat} {x : Int} (hP : PInv d os0 n) (hi : os0[i]? = some x) (hx : x < 0) : BInv d os0 (os0.set i (n : Int)) n i [i] where
  len := by simpa using hP.len
  old c y h h0 := by
    rw [List.getElem?_set]
    split
    · rename_i e; subst e; rw [hi] at h; cases h; omega
    · exact h
  new c := by
    have hlt := (List.getElem?_eq_some_iff.1 hi).1
    rw [List.getElem?_set, List.mem_singleton]
    by_cases e : i = c
    · simp [e]; subst e; exact hlt
    · rw [if_neg e]
      constructor
      · intro h; exact absurd h.symm e
      · intro h; have := (hP.lo c _ h).2; omega
  other c y h hne := by
    rw [List.getElem?_set] at h
    split at h
    · split at h
      · simp at h; omega
      · cases h
    · exact h
  conn c hc := by rw [List.mem_singleton.1 hc]; exact .refl
  nodup := by simp
  start := by simp
/-- A neighbour that is numbered lies in the queue. -/
theorem BInv.there {d : Dia} {os0 os : List Int} {n i : Nat} {qs : List Nat} (hs : SoundP d) (hP : PInv d os0 n) (h : BInv d os0 os n i qs) {c p : Nat} (hc : c ∈ qs) (hcl : c < d.cross.length) (hp : p < 4) {x : Int} (hx : os[otherQ d (4 * c + p) / 4]? = some x) (h0 : 0 ≤ x) : otherQ d (4 * c + p) / 4 ∈ qs := by
  by_cases e : x = (n : Int)
  · rw [h.new, hx, e]
  · have h1 := h.other _ _ hx e
    have h2 := (hP.cls _ c x h1 h0 hcl).2 (Conn.back1 hs hcl hp)
    have h3 := h.old c x h2 h0
    have h4 := (h.new c).1 hc
    rw [h3] at h4
    exact absurd (Option.some.inj h4) e
theorem BInv.add {d : Dia} {os0 os : List Int} {n i : Nat} {qs : List Nat} (_ : PInv d os0 n) (h : BInv d os0 os n i qs) {c p : Nat} (hc : c ∈ qs) (hp : p < 4) {x : Int} (hx : os[otherQ d (4 * c + p) / 4]? = some x) (h0 : x < 0) :
    BInv d os0 (os.set (otherQ d (4 * c + p) / 4) (n : Int)) n i (qs ++ [otherQ d (4 * c + p) / 4]) where
  len := by simpa using h.len
  old c' y h1 h2 := by
    have h3 := h.old c' y h1 h2
    rw [List.getElem?_set]
    split
    · rename_i e; subst e; rw [hx] at h3; cases h3; omega
    · exact h3
  new c' := by
    have hlt := (List.getElem?_eq_some_iff.1 hx).1
    rw [List.getElem?_set, List.mem_append, List.mem_singleton, h.new]
    by_cases e : otherQ d (4 * c + p) / 4 = c'
    · simp [e]; subst e; exact hlt
    · rw [if_neg e]
      constructor
      · rintro (h1 | h1)
        · exact h1
        · exact absurd h1.symm e
      · exact .inl
  other c' y h1 hne := by
    rw [List.getElem?_set] at h1
    split at h1
    · split at h1
      · simp at h1; omega
      · cases h1
    · exact h.other c' y h1 hne
  conn c' hc' := by
    rcases List.mem_append.1 hc' with h1 | h1
    · exact h.conn c' h1
    · rw [List.mem_singleton.1 h1]; exact (h.conn c hc).step hp
  nodup := by
    rw [List.nodup_append]
    refine ⟨h.nodup, by simp, fun a ha b hb e => ?_⟩
    rw [List.mem_singleton.1 hb] at e
    subst e
    have := (h.new _).1 ha
    rw [hx] at this; cases this; omega
  start := List.mem_append.2 (.inl h.start)
/-- The queue is worked through up to place k, there up to p. -/
def QDone (d : Dia) (qs : List Nat) (k p : Nat) : Prop := (∀ j c p', qs[j]? = some c → j < k → p' < 4 → otherQ d (4 * c + p') / 4 ∈ qs) ∧ ∀ c p', qs[k]? = some c → p' < p → otherQ d (4 * c + p') / 4 ∈ qs
theorem QDone.zero (d : Dia) (qs : List Nat) : QDone d qs 0 0 := ⟨fun j c p' _ h => by omega, fun c p' _ h => by omega⟩
theorem QDone.app {d : Dia} {qs : List Nat} {k p : Nat} (h : QDone d qs k p) (hk : k < qs.length) (y : Nat) : QDone d (qs ++ [y]) k p :=
  ⟨fun j c p' hj hjk hp => List.mem_append.2 (.inl (h.1 j c p' (by rw [List.getElem?_append_left (by omega)] at hj; exact hj) hjk hp)),
   fun c p' hc hp => List.mem_append.2 (.inl (h.2 c p' (by rw [List.getElem?_append_left hk] at hc; exact hc) hp))⟩
theorem QDone.next {d : Dia} {qs : List Nat} {k p c : Nat} (h : QDone d qs k p) (hc : qs[k]? = some c) (hm : otherQ d (4 * c + p) / 4 ∈ qs) : QDone d qs k (p + 1) :=
  ⟨h.1, fun c' p' hc' hp => by
    rcases Nat.lt_or_ge p' p with h1 | h1
    · exact h.2 c' p' hc' h1
    · obtain rfl : p' = p := by omega
      rw [hc] at hc'; cases hc'; exact hm⟩
theorem QDone.row {d : Dia} {qs : List Nat} {k : Nat} (h : QDone d qs k 4) : QDone d qs (k + 1) 0 :=
  ⟨fun j c p' hj hjk hp => by
    rcases Nat.lt_or_ge j k with h1 | h1
    · exact h.1 j c p' hj h1 hp
    · obtain rfl : j = k := by omega
      exact h.2 c p' hj hp, fun c p' _ hp => by omega⟩
theorem BInv.done {d : Dia} {os0 os : List Int} {n i : Nat} {qs : List Nat} (hs : SoundP d) (hP : PInv d os0 n) (h : BInv d os0 os n i qs) (hi : i < d.cross.length) {k : Nat} (hk : qs.length ≤ k) (hq : QDone d qs k 0) : PInv d os (n + 1) := by
  have hall : ∀ c, Conn d i c → c ∈ qs := by
    intro c hc
    induction hc with
    | refl => exact h.start
    | @step c p hc hp ih =>
      obtain ⟨j, hj⟩ := List.getElem?_of_mem ih
      exact hq.1 j c p hj (by have := (List.getElem?_eq_some_iff.1 hj).1; omega) hp
  refine ⟨h.len, fun c x hx => ?_, fun c c' x hx h0 hc' => ?_, fun j hj => ?_⟩
  · by_cases e : x = (n : Int)
    · omega
    · have := hP.lo c x (h.other c x hx e); omega
  · by_cases e : x = (n : Int)
    · subst e
      have hc := h.conn c ((h.new c).2 hx)
      rw [← h.new]
      exact ⟨fun hm => (hc.symm hs hi).trans (h.conn c' hm), fun hcc => hall c' (hc.trans hcc)⟩
    · rw [← hP.cls c c' x (h.other c x hx e) h0 hc']
      exact ⟨fun hm => h.other c' x hm e, fun hm => h.old c' x hm h0⟩
  · rcases Nat.lt_or_ge j n with h1 | h1
    · obtain ⟨c, hc⟩ := hP.onto j h1
      exact ⟨c, h.old c _ hc (by omega)⟩
    · obtain rfl : j = n := by omega
      exact ⟨i, (h.new i).1 h.start⟩
theorem BInv.qlen {d : Dia} {os0 os : List Int} {n i : Nat} {qs : List Nat} (h : BInv d os0 os n i qs) : qs.length ≤ d.cross.length := by
  have hsub : qs ⊆ List.range d.cross.length := fun c hc => by
    have := (List.getElem?_eq_some_iff.1 ((h.new c).1 hc)).1
    rw [h.len] at this; exact List.mem_range.2 this
  have := List.Nodup.length_le_of_subset h.nodup hsub
  simpa using this
theorem BInv.lt {d : Dia} {os0 os : List Int} {n i : Nat} {qs : List Nat} (h : BInv d os0 os n i qs) {c : Nat} (hc : c ∈ qs) : c < d.cross.length := by
  have := (List.getElem?_eq_some_iff.1 ((h.new c).1 hc)).1
  rwa [h.len] at this
/-- All crossings up to i are numbered; a number is at most the number of crossings ahead. -/
theorem BInv.mono {d : Dia} {os0 os : List Int} {n i : Nat} {qs : List Nat} (h : BInv d os0 os n i qs) {m : Nat} (hm : ∀ c, c < m → ∃ x, os0[c]? = some x ∧ 0 ≤ x) : ∀ c, c < m → ∃ x, os[c]? = some x ∧ 0 ≤ x := fun c hc => by
  obtain ⟨x, hx, h0⟩ := hm c hc
  exact ⟨x, h.old c x hx h0, h0⟩
def OrbN (f : Nat → Nat) (q0 N : Nat) : Prop := 0 < N ∧ iter f N q0 = q0 ∧ ∀ k, 0 < k → k < N → iter f k q0 ≠ q0
theorem orbGo_orb {f : Nat → Nat} {q0 : Nat} : ∀ (k i : Nat), (∀ m, 0 < m → m ≤ i → iter f m q0 ≠ q0) → (∃ j, j ≤ k ∧ iter f (i + j + 1) q0 = q0) →
    ∃ n, 0 < n ∧ orbGo f q0 (k + 1) (iter f i q0) = (List.range n).map (fun m => iter f (i + m) q0) ∧ iter f (i + n) q0 = q0 ∧ ∀ m, 0 < m → m < i + n → iter f m q0 ≠ q0
  | k, i, hmin, ⟨j, hj, hb⟩ => by
    by_cases e : f (iter f i q0) = q0
    · refine ⟨1, by omega, by rw [orbGo_last e]; simp [List.range_succ], by rw [iter_succ]; exact e, fun m h0 h1 => hmin m h0 (by omega)⟩
    · have hj0 : j ≠ 0 := fun h => by subst h; rw [Nat.add_zero, iter_succ] at hb; exact e hb
      obtain ⟨k, rfl⟩ : ∃ m, k = m + 1 := ⟨k - 1, by omega⟩
      have hmin2 : ∀ m, 0 < m → m ≤ i + 1 → iter f m q0 ≠ q0 := fun m h0 h1 => by
        rcases Nat.lt_or_ge m (i + 1) with h | h
        · exact hmin m h0 (by omega)
        · obtain rfl : m = i + 1 := by omega
          rw [iter_succ]; exact e
      obtain ⟨n, h0, h1, h2, h3⟩ := orbGo_orb k (i + 1) hmin2 ⟨j - 1, by omega, by rw [show i + 1 + (j - 1) + 1 = i + j + 1 by omega]; exact hb⟩
      refine ⟨n + 1, by omega, ?_, by rw [show i + (n + 1) = i + 1 + n by omega]; exact h2, fun m h0 hm => h3 m h0 (by omega)⟩
      rw [orbGo_next e, ← iter_succ f i q0, h1, List.range_succ_eq_map, List.map_cons, List.map_map, Nat.add_zero]
      congr 1
      refine List.map_congr_left fun m _ => ?_
      show iter f (i + 1 + m) q0 = iter f (i + (m + 1)) q0
      rw [show i + 1 + m = i + (m + 1) by omega]
theorem SoundP.orb {d : Dia} (h : SoundP d) {q : Nat} (hq : q < 4 * d.cross.length) : OrbN (stepQ d) q (regionOf d q).length ∧ regionOf d q = (List.range (regionOf d q).length).map fun k => iter (stepQ d) k q := by
  obtain ⟨j, hj, hb⟩ := h.back hq
  obtain ⟨n, h0, h1, h2, h3⟩ := orbGo_orb (f := stepQ d) (q0 := q) (4 * d.cross.length - 1) 0 (fun m h0 h1 => by omega) ⟨j, hj, by rw [Nat.zero_add]; exact hb⟩
  rw [show 4 * d.cross.length - 1 + 1 = 4 * d.cross.length by omega] at h1
  simp only [Nat.zero_add] at h1 h2 h3
  have e : (regionOf d q).length = n := by rw [regionOf]; show (orbGo _ _ _ (iter (stepQ d) 0 q)).length = n; rw [h1]; simp
  rw [e]
  exact ⟨⟨h0, h2, h3⟩, h1⟩
end Go.V
/- Diagrams as data, part e: the map of places that the program has met. -/
namespace Go.V
open Go
def keyE (q : Nat) : Int × Int := (((q / 4 : Nat) : Int), ((q % 4 : Nat) : Int))
theorem keyE_inj {q q' : Nat} : keyE q = keyE q' ↔ q = q' := by
  simp only [keyE, Prod.mk.injEq]; omega
def addTo (f : Nat → Nat) (l : List ((Int × Int) × Value)) (q0 j : Nat) : List ((Int × Int) × Value) := (List.range j).foldl (fun l k => mput l (keyE (iter f k q0)) (.bool true)) l
theorem addTo_succ (f : Nat → Nat) (l : List ((Int × Int) × Value)) (q0 j : Nat) : addTo f l q0 (j + 1) = mput (addTo f l q0 j) (keyE (iter f j q0)) (.bool true) := by simp [addTo, List.range_succ]
theorem mget_addTo (f : Nat → Nat) (l : List ((Int × Int) × Value)) (q0 j q : Nat) : mget (addTo f l q0 j) (keyE q) = if ((List.range j).map fun k => iter f k q0).contains q then some (.bool true) else mget l (keyE q) := by
  induction j with
  | zero => simp [addTo]
  | succ j ih =>
    rw [addTo_succ, mget_mput, ih, List.range_succ, List.map_append, List.contains_eq_mem, List.contains_eq_mem]
    by_cases h : iter f j q0 = q
    · rw [if_pos (keyE_inj.2 h)]; simp [h]
    · have : ¬ q = iter f j q0 := fun e => h e.symm
      rw [if_neg (fun e => h (keyE_inj.1 e))]; simp [this]
def MetOk (l : List ((Int × Int) × Value)) (rs : List (Value × List Nat)) : Prop := ∀ q, (mget l (keyE q)).getD (.bool false) = .bool (rs.any fun a => a.2.contains q)
theorem MetOk.nil : MetOk [] [] := fun _ => rfl
theorem MetOk.at {l : List ((Int × Int) × Value)} {rs : List (Value × List Nat)} (h : MetOk l rs) {c p : Nat} (hp : p < 4) : (mget l (((c : Nat) : Int), ((p : Nat) : Int))).getD (.bool false) = .bool (rs.any fun a => a.2.contains (4 * c + p)) := by
  have := h (4 * c + p)
  simp only [keyE] at this
  rwa [show (4 * c + p) / 4 = c by omega, show (4 * c + p) % 4 = p by omega] at this
theorem MetOk.push {l : List ((Int × Int) × Value)} {rs : List (Value × List Nat)} (h : MetOk l rs) {d : Dia} {q0 N : Nat} {v : Value} (hr : regionOf d q0 = (List.range N).map fun k => iter (stepQ d) k q0) : MetOk (addTo (stepQ d) l q0 N) (rs ++ [(v, regionOf d q0)]) := fun q => by
  rw [mget_addTo, ← hr, List.any_append]
  have := h q
  by_cases hc : (regionOf d q0).contains q = true
  · rw [if_pos hc]; simp only [List.any_cons, List.any_nil, hc, Bool.or_false, Bool.or_true]; rfl
  · rw [if_neg hc, this]; simp only [Bool.not_eq_true] at hc; simp only [List.any_cons, List.any_nil, hc, Bool.or_false]
theorem regHL_reg {d : Dia} {q N : Nat} {v : Value} (h : regionOf d q = (List.range N).map fun k => iter (stepQ d) k q) : regHL (v, regionOf d q) = HL.own 110 2 v N (((List.range N).map fun k => iter (stepQ d) k q).flatMap encQ) := by
  rw [regHL]; simp only [h, List.length_map, List.length_range]
theorem orb_snoc (f : Nat → Nat) (q0 j : Nat) {a b : Int} (h1 : a = ((iter f j q0 / 4 : Nat) : Int)) (h2 : b = ((iter f j q0 % 4 : Nat) : Int)) : ((List.range j).map fun k => iter f k q0).flatMap encQ ++ [iv a, iv b] = ((List.range (j + 1)).map fun k => iter f k q0).flatMap encQ := by
  rw [List.range_succ, List.map_append, List.map_cons, List.map_nil]; exact flatQ_snoc h1 h2
end Go.V
/- The proof layer, part i: ranges over a function. -/
namespace Go.V
open Go
/-- Two heaplets as one. -/
theorem Sym.star {w0 w : World} {S : Nat → Prop} {h k : HL} {L : List HL} (hs : Sym w0 S (h :: k :: L) w) : Sym w0 S (HL.star h k :: L) w := by
  have hp := List.pairwise_cons.1 hs.apart
  have hp2 := List.pairwise_cons.1 hp.2
  refine ⟨hs.old, fun g hg => ?_, fun g hg b hb => ?_, List.pairwise_cons.2 ⟨fun g hg b hb hgb => ?_, hp2.2⟩⟩
  · rcases List.mem_cons.1 hg with rfl | hg
    · exact ⟨hs.holds _ (by simp), hs.holds _ (by simp), hp.1 k (by simp)⟩
    · exact hs.holds g (by simp [hg])
  · rcases List.mem_cons.1 hg with rfl | hg
    · rcases hb with hb | hb
      · exact hs.supp h (by simp) b hb
      · exact hs.supp k (by simp) b hb
    · exact hs.supp g (by simp [hg]) b hb
  · rcases hb with hb | hb
    · exact hp.1 g (by simp [hg]) b hb hgb
    · exact hp2.1 g hg b hb hgb
theorem Sym.unstar {w0 w : World} {S : Nat → Prop} {h k : HL} {L : List HL} (hs : Sym w0 S (HL.star h k :: L) w) : Sym w0 S (h :: k :: L) w := by
  have hp := List.pairwise_cons.1 hs.apart
  have hh : (HL.star h k).holds w := hs.holds _ (by simp)
  refine ⟨hs.old, fun g hg => ?_, fun g hg b hb => ?_, List.pairwise_cons.2 ⟨fun g hg b hb hgb => ?_, List.pairwise_cons.2 ⟨fun g hg b hb hgb => ?_, hp.2⟩⟩⟩
  · rcases List.mem_cons.1 hg with rfl | hg
    · exact hh.1
    · rcases List.mem_cons.1 hg with rfl | hg
      · exact hh.2.1
      · exact hs.holds g (by simp [hg])
  · rcases List.mem_cons.1 hg with rfl | hg
    · exact hs.supp (HL.star g k) (by simp) b (Or.inl hb)
    · rcases List.mem_cons.1 hg with rfl | hg
      · exact hs.supp (HL.star h g) (by simp) b (Or.inr hb)
      · exact hs.supp g (by simp [hg]) b hb
  · rcases List.mem_cons.1 hg with rfl | hg
    · exact hh.2.2 b hb hgb
    · exact hp.1 g hg b (.inl hb) hgb
  · exact hp.1 g hg b (.inr hb) hgb
theorem HSub.skip {L L' : List HL} {h : HL} (hs : HSub L L') : HSub L (h :: L') := let ⟨M, h1, h2⟩ := hs; ⟨M, h1, h2.cons h⟩
/-- A heaplet by itself, all of its blocks handed over. -/
theorem Sym.own1 {w : World} {h : HL} (hh : h.holds w) (hl : ∀ b, h.supp b → b < w.heap.size) : Sym w h.supp [h] w :=
  ⟨Old.refl _ w, fun g hg => by rw [List.mem_singleton.1 hg]; exact hh, fun g hg b hb => by rw [List.mem_singleton.1 hg] at hb; exact ⟨hl b hb, .inr hb⟩, List.pairwise_singleton _ _⟩
/-- What a call of yield does: one round; it goes on. -/
def Yields (P : Program) (l : Nat) (v : Value) (w : World) (S : Nat → Prop) {σ : Type} (H : σ → HL) : Prop :=
  ∃ r : Loop, w.heap[l]? = some (.loop r) ∧ r.params.size = 1 ∧ RoundIn (FW none) 0 P l r.fn ((r.params.zip #[v]).foldl (fun tmps (t, a) => tmps.setIfInBounds t a) r.tmps) r.assign r.body w fun e w' => e = .returned (.bool true) ∧ ∃ s, Sym w S [H s] w'
section yield
variable {C : Cx} {F : Fr} {L : List HL} {o : Oper}
theorem Does.yield {x y : Operand} {ts : Array TypeId} {i l : Nat} {v : Value} {h : HL} {σ : Type} {H : σ → HL} (ho : o.op = .call { callee := .value x, args := #[y], argTypes := ts }) (hr : C.r = none) (hx : F.ev x = some (.func (.yield l) #[] #[])) (hy : F.ev y = some v) (hi : L[i]? = some h)
    (hyi : ∀ w, h.holds w → (∀ b, h.supp b → b < w.heap.size) → Yields C.P l v w h.supp H) : Does C o F L (fun _ : σ => True) (fun _ => .bool true) (fun s => L.set i (H s)) := fun a w ok next Q hn => by
  refine ⟨fun _ _ => trivial, ?_⟩
  rw [Oper.semAt_eq _ _ _ (fun c h => by rw [ho] at h; cases h)]
  obtain ⟨r, hl, hp, hround⟩ := hyi w (ok.sym.at hi) (fun b hb => (ok.sym.supp _ (List.mem_of_getElem? hi) b hb).1)
  have hyr := run_yield (P := C.P) (args := #[v]) hl (by simp [hp])
  have hrun : (execOp a.eval o).run C.P w = .ok (.round l r.fn ((r.params.zip #[v]).foldl (fun tmps (t, a) => tmps.setIfInBounds t a) r.tmps) r.assign r.body) w := by
    simp only [execOp, ho, resolve, ok.fr.ev hx]
    simp [Deferred.ofValue, invoke, ok.fr.ev hy, hyr]
  rw [hrun, Oper.uponIn_round, hr]
  refine ⟨fun h => by simp [FW] at h, hround.mono ?_⟩
  rintro e w' ⟨rfl, s, hs⟩
  refine hn s w' trivial (ok.sym.turn hi (fun b hb => ?_) hs.old (hs.holds _ (by simp)))
  have := hs.supp (H s) (by simp) b hb
  exact ⟨this.2.symm, this.1⟩
end yield
/-- What the body of a round must come to. -/
def RoundEnd (C : Cx) (l : Nat) (rb : Loop) {σ : Type} (H : σ → HL) : Exit → Act → World → Prop
  | .normal, _, w => ∃ s, Sym C.w0 C.S [HL.obj l (.loop rb), H s] w
  | _, _, _ => False
/-- What the assignment ahead of a round's body must come to. -/
def RoundBegin (C : Cx) (l : Nat) (rc : Loop) (body : Code) {σ : Type} (H : σ → HL) : Exit → Act → World → Prop
  | .normal, a, w => ∃ F1 L1, Ok C F1 (HL.obj l (.loop rc) :: L1) a w ∧ RunC C body (RoundEnd C l { rc with state := .busy } H) F1 (HL.obj l (.loop { rc with state := .busy }) :: L1)
  | _, _, _ => False
theorem Ends.roundEnd {C : Cx} {l : Nat} {rb : Loop} {σ : Type} {H : σ → HL} {F : Fr} {L : List HL} (s : σ) (hL : HSub [HL.obj l (.loop rb), H s] L) : Ends C .normal (RoundEnd C l rb H) F L := fun _ _ ok => ⟨s, ok.sym.sub hL⟩
theorem Ends.roundBegin {C : Cx} {l : Nat} {rc : Loop} {body : Code} {σ : Type} {H : σ → HL} {F F1 : Fr} {L L1 : List HL} (hF : F1.Sub F) (hL : HSub (HL.obj l (.loop rc) :: L1) L) (h : RunC C body (RoundEnd C l { rc with state := .busy } H) F1 (HL.obj l (.loop { rc with state := .busy }) :: L1)) :
    Ends C .normal (RoundBegin C l rc body H) F L := fun _ _ ok => ⟨F1, L1, ok.sub hF hL, h⟩
theorem Old.putObj {S : Nat → Prop} (w : World) {l : Nat} (o : Obj) (hS : S l) : Old S w (w.putObj l o) :=
  ⟨rfl, rfl, rfl, by simp, fun k _ hk => World.putObj_heap_other (fun e => hk (e ▸ hS)), fun _ => Nat.le_refl _⟩
theorem Sym.putObj {w0 w : World} {S : Nat → Prop} {L : List HL} {i l : Nat} {o o' : Obj} (hs : Sym w0 S L w) (hi : L[i]? = some (HL.obj l o)) : Sym w0 S (L.set i (HL.obj l o')) (w.putObj l o') :=
  hs.turn hi (fun b hb => ⟨.inl hb, by rw [World.putObj_size]; exact (hs.supp _ (List.mem_of_getElem? hi) b hb).1⟩) (Old.putObj w o' rfl) (World.putObj_heap_same (hs.lt hi))
theorem yields_of_run {P : Program} {l n p : Nat} {rc : Loop} {v : Value} {w : World} {F : Fr} {K : HL} {σ : Type} {H : σ → HL} (hst : rc.state = .ready) (hpe : rc.pending = none) (hps : rc.params = #[p]) (hp : p < n) (hfr : At n [] F { tmps := rc.tmps, defers := [] })
    (hK : (HL.star (HL.obj l (.loop rc)) K).holds w) (hlt : ∀ b, (HL.star (HL.obj l (.loop rc)) K).supp b → b < w.heap.size)
    (h : RunC ⟨P, some l, n, [], w, (HL.star (HL.obj l (.loop rc)) K).supp⟩ rc.assign (RoundBegin ⟨P, some l, n, [], w, (HL.star (HL.obj l (.loop rc)) K).supp⟩ l rc rc.body H) ((p, v) :: F) [HL.obj l (.loop rc), K]) :
    Yields P l v w (HL.star (HL.obj l (.loop rc)) K).supp (fun s => HL.star (HL.obj l (.loop rc)) (H s)) := by
  refine ⟨rc, hK.1, by rw [hps]; rfl, ?_⟩
  have htm : (rc.params.zip #[v]).foldl (fun tmps (t, a) => tmps.setIfInBounds t a) rc.tmps = rc.tmps.setIfInBounds p v := by rw [hps]; simp
  rw [htm]
  refine roundIn_of_wpIn (F := FW none) trivial ?_
  refine wpIn_mono (h _ w ⟨?_, (Sym.own1 hK hlt).unstar⟩) ?_
  · exact hfr.put hp v
  · intro e a1 w1 hq
    cases e <;> try exact hq.elim
    obtain ⟨F1, L1, ok, hb⟩ := hq
    have hl1 := ok.sym.at (i := 0) rfl
    refine ⟨_, run_beginRound hl1 hst, ?_⟩
    refine wpIn_mono (hb a1 _ ⟨ok.fr, ?_⟩) ?_
    · exact ok.sym.putObj (i := 0) rfl
    · intro e a2 w2 hq
      cases e <;> try exact hq.elim
      obtain ⟨s, hq⟩ := hq
      have hq : Sym w (HL.star (HL.obj l (.loop rc)) K).supp [HL.obj l (.loop { rc with state := .busy }), H s] w2 := hq
      have hl2 := hq.at (i := 0) rfl
      refine ⟨_, _, run_endRound none hl2, rfl, s, ?_⟩
      have hre : { { rc with state := .busy } with state := if (none : Option Code).isNone then LoopState.ready else .done, pending := none } = rc := by
        cases rc; simp at hst hpe; subst hst; subst hpe; rfl
      rw [hre]
      exact (hq.putObj (i := 0) (o' := .loop rc) rfl).star
def markD (D : Nat) : Deferred := { target := .collected D, args := #[] }
theorem RunC.rangeFunc {C : Cx} {F : Fr} {L R : List HL} {Q : Exit → Act → World → Prop} {g : Operand} {p : Nat} {assign body : Code} {gf N : Nat} {lb : Array Value} {V : Value} {σ : Type} (s0 : σ) (x : Nat → Value) (K : Nat → σ → HL) (hr : C.r = none) (hp : Nat.blt p C.n = true)
    (hg : F.ev g = some (.func (.func gf) #[] lb)) (hgf : ∀ args w, (callFunc gf args).run C.P w = .ok (.enter gf args) w) (hL : HSub (K 0 s0 :: R) L)
    (hround : ∀ (l : Nat) (rc : Loop) (j : Nat) (s : σ) (w : World) (S : Nat → Prop), j < N → rc.assign = assign → rc.body = body → RunC ⟨C.P, some l, C.n, [], w, S⟩ assign (RoundBegin ⟨C.P, some l, C.n, [], w, S⟩ l rc body (K (j + 1))) ((p, x j) :: F) [HL.obj l (.loop rc), K j s])
    (hcall : ∀ (l : Nat) (J : Nat → σ → HL) (w : World), Sym C.w0 C.S (J 0 s0 :: R) w → (∀ j s, j < N → ∀ w', (J j s).holds w' → (∀ b, (J j s).supp b → b < w'.heap.size) → Yields C.P l (x j) w' (J j s).supp (J (j + 1))) →
      Gives C.P gf (#[.func (.yield l) #[] #[]] ++ lb) w (J 0 s0).supp (fun _ : σ => True) (fun _ => V) (fun s => [J N s]))
    (hk : ∀ D s, Ends { C with D := markD D :: C.D } .normal Q F (K N s :: HL.obj D (.deferred (some [])) :: R)) : RunC C (.rangeFunc g #[p] assign body) Q F L := fun a w ok => by
  refine wpIn_rangeFunc fun fn _ => ?_
  rw [show (FW C.r).round = none by rw [hr]; rfl]
  let rc : Loop := { state := .ready, pending := none, fn, tmps := a.tmps, params := #[p], assign, body, defers := w.heap.size }
  let J : Nat → σ → HL := fun j s => HL.star (HL.obj (w.heap.size + 1) (.loop rc)) (K j s)
  let W1 := (w.alloc (.deferred (some []))).alloc (.loop rc)
  have hs1 : Sym C.w0 C.S (J 0 s0 :: HL.obj w.heap.size (.deferred (some [])) :: R) W1 := by
    have h1 := ((ok.sym.sub hL).alloc (.deferred (some []))).alloc (.loop rc)
    rw [World.size_alloc] at h1
    have hsb : HSub (HL.obj (w.heap.size + 1) (.loop rc) :: K 0 s0 :: HL.obj w.heap.size (.deferred (some [])) :: R) (HL.obj (w.heap.size + 1) (.loop rc) :: HL.obj w.heap.size (.deferred (some [])) :: K 0 s0 :: R) := HSub.pick 0 rfl (HSub.pick 1 rfl (HSub.pick 0 rfl (HSub.refl R)))
    exact (h1.sub hsb).star
  refine ⟨w.heap.size + 1, [markD w.heap.size], W1, { target := .fn (.func gf) lb, args := #[.func (.yield (w.heap.size + 1)) #[] #[]] }, W1, gf, #[.func (.yield (w.heap.size + 1)) #[] #[]] ++ lb, W1, run_enterLoop_outer _ _ _ _ _, ?_, fun _ _ => trivial, ?_, fun h => by simp [FW] at h, ?_⟩
  · simp only [resolve, ok.fr.ev hg]
    simp [go_sem]
  · simp [invoke, go_sem, hgf]
  · refine callsFW.2 ?_
    have hs1' : Sym C.w0 C.S (J 0 s0 :: R) W1 := hs1.sub (HSub.pick 0 rfl (HSub.skip (HSub.refl R)))
    refine Calls.mono (hcall (w.heap.size + 1) J W1 hs1' ?_) ?_
    · intro j s hj w' hh hlt
      refine yields_of_run (n := C.n) (p := p) rfl rfl rfl (Nat.le_of_ble_eq_true hp) ⟨ok.fr.size, rfl, ok.fr.slot⟩ hh hlt ?_
      exact hround _ _ j s w' _ hj rfl rfl
    · rintro e w3 ⟨s, _, rfl, hs3⟩
      have h3 := (Sym.handed (K := [J 0 s0]) (R := HL.obj w.heap.size (.deferred (some [])) :: R) hs1 (fun b hb _ => ⟨_, List.mem_singleton.2 rfl, hb⟩) hs3).unstar
      have hl3 := h3.at (i := 0) rfl
      refine ⟨none, _, run_endLoop hl3 (by simp [rc]), ?_⟩
      refine hk w.heap.size s _ _ ⟨⟨ok.fr.size, by show _ ++ a.defers = _ :: C.D; rw [ok.fr.defers]; rfl, ok.fr.slot⟩, ?_⟩
      exact (h3.putObj (i := 0) (o' := .loop { rc with state := .exhausted }) rfl).sub (HSub.skip (HSub.refl _))
/-- The marks of the ranges that have run. -/
def HL.marks (Ds : List Nat) : HL := HL.all (Ds.map fun D => HL.obj D (.deferred (some [])))
theorem Sym.marks_nil {w0 w : World} {S : Nat → Prop} {L : List HL} (hs : Sym w0 S L w) : Sym w0 S (HL.marks [] :: L) w := hs.emp
theorem Sym.marks_push {w0 w : World} {S : Nat → Prop} {L : List HL} {D : Nat} {Ds : List Nat} (hs : Sym w0 S (HL.obj D (.deferred (some [])) :: HL.marks Ds :: L) w) : Sym w0 S (HL.marks (D :: Ds) :: L) w := hs.star
theorem leavesM {P : Program} {fn : Func} {tmps : Array Value} {R : Ending → World → Prop} {w0 : World} {S : Nat → Prop} {H : List HL} {v : Value} (hr : ∀ w, Sym w0 S H w → (results fn tmps).run P w = .ok v w) (hR : ∀ w, Sym w0 S H w → R (.returned v) w) :
    ∀ (Ds : List Nat) (w : World), Sym w0 S (HL.marks Ds :: H) w → LeavesInM (FW none) 0 P fn tmps R (Ds.map markD) .returning w
  | [], w, hs => by
    have h0 : Sym w0 S H w := hs.sub (HSub.skip (HSub.refl _))
    exact ⟨v, hr w h0, hR w h0⟩
  | D :: Ds, w, hs => by
    have h1 : Sym w0 S (HL.obj D (.deferred (some [])) :: HL.marks Ds :: H) w := Sym.unstar hs
    refine ⟨by simp, .inl ⟨D, _, rfl, run_takeDeferred (h1.at (i := 0) rfl), ?_⟩⟩
    exact leavesM hr hR Ds _ ((h1.putObj (i := 0) (o' := .deferred none) rfl).sub (HSub.skip (HSub.refl _)))
theorem Ends.leaveM {P : Program} {n : Nat} {w0 : World} {S : Nat → Prop} {fn : Func} {R : Ending → World → Prop} {F : Fr} {L H : List HL} {v : Value} {e : Exit} {Ds : List Nat} (he : e = .ret ∨ e = .normal) (hL : HSub (HL.marks Ds :: H) L)
    (hr : ∀ a w, Ok ⟨P, none, n, Ds.map markD, w0, S⟩ F H a w → (results fn a.tmps).run P w = .ok v w) (hR : ∀ w', Sym w0 S H w' → R (.returned v) w') : Ends ⟨P, none, n, Ds.map markD, w0, S⟩ e (bodyPostM (FW none) 0 P fn R) F L := fun a w ok => by
  have key : LeavesInM (FW none) 0 P fn a.tmps R a.defers .returning w := by
    rw [ok.fr.defers]
    exact leavesM (fun w' hs => hr a w' ⟨ok.fr, hs⟩) hR Ds w (ok.sym.sub hL)
  rcases he with rfl | rfl <;> exact key
theorem fn_of_runM {P : Program} {f : FuncId} {fn : Func} {c : Code} {args : List Value} {n : Nat} {w : World} {S : Nat → Prop} {L : List HL} {R : Ending → World → Prop}
    (hf : P.funcs[f]? = some fn) (hb : fn.body = some c) (hn : fn.ntmps = n) (hl : args.length ≤ n) (hs : Sym w S L w)
    (h : RunC ⟨P, none, n, [], w, S⟩ c (bodyPostM (FW none) 0 P fn R) (entry 0 args) L) : Calls P f args.toArray w R := by
  refine (callsFW (r := none) (n := 0)).1 (callsIn_of_wp_marks hf hb trivial ?_)
  refine h _ w ⟨⟨?_, rfl, fun t v ht => ?_⟩, hs⟩
  · simp [hn]; omega
  · obtain ⟨k, hk, hv⟩ := entry_get args 0 t v ht
    have : t = k := by omega
    subst this
    have hlt : t < args.length := (List.getElem?_eq_some_iff.1 hv).1
    simp [Array.getElem?_append, hlt]
    simpa [List.getElem?_eq_getElem hlt] using hv
def AgainD (C : Cx) {γ : Type} (I : γ → Prop) (μ : γ → Nat) (Dg : γ → List Nat) (Fi : γ → Fr) (Li : γ → List HL) (m : Nat) (a : Act) (w : World) : Prop := ∃ g, I g ∧ μ g < m ∧ Ok { C with D := (Dg g).map markD } (Fi g) (Li g) a w
theorem RunC.loopD {C : Cx} {c : Code} {Q : Exit → Act → World → Prop} {γ : Type} {keep F : Fr} {hkeep L : List HL} (I : γ → Prop) (μ : γ → Nat) (Dg : γ → List Nat) (chg : γ → Fr) (hchg : γ → List HL) (g0 : γ) (h0 : I g0) (hD : C.D = (Dg g0).map markD) (hF : (chg g0).Sub F) (hk : keep.Sub F) (hL : HSub (hchg g0 ++ hkeep) L)
    (round : ∀ g, I g → RunC { C with D := (Dg g).map markD } c (Exit.then (AgainD C I μ Dg (fun g => chg g ++ keep) (fun g => hchg g ++ hkeep) (μ g)) Q) (chg g ++ keep) (hchg g ++ hkeep)) : RunC C (.loop c) Q F L := fun a w ok => by
  refine wpIn_loop_g (fun g a w => I g ∧ Ok { C with D := (Dg g).map markD } (chg g ++ keep) (hchg g ++ hkeep) a w) μ g0 ⟨h0, ?_⟩ ?_
  · have := ok.sub (hF.app hk) hL
    exact ⟨⟨this.fr.size, by rw [this.fr.defers, hD], this.fr.slot⟩, this.sym⟩
  · intro g a1 w1 ⟨hg, okg⟩
    refine wpIn_mono (round g hg a1 w1 okg) ?_
    intro e a2 w2 hq
    cases e <;> first | exact hq | (obtain ⟨g', hg', hm, ok'⟩ := hq; exact ⟨g', hm, hg', ok'⟩)
theorem Ends.againD {C : Cx} {Ds : List Deferred} {Q : Exit → Act → World → Prop} {F : Fr} {L : List HL} {γ : Type} {I : γ → Prop} {μ : γ → Nat} {Dg : γ → List Nat} {Fi : γ → Fr} {Li : γ → List HL} {m : Nat} (g : γ) (hI : I g) (hm : μ g < m) (hF : (Fi g).Sub F) (hL : HSub (Li g) L) (hD : Ds = (Dg g).map markD) :
    Ends { C with D := Ds } .normal (Exit.then (AgainD C I μ Dg Fi Li m) Q) F L := fun a w ok => by
  have := ok.sub hF hL
  exact ⟨g, hI, hm, ⟨this.fr.size, by rw [this.fr.defers, hD], this.fr.slot⟩, this.sym⟩
end Go.V
/- The proof layer, part j: heaplets put together; what stays while others turn. -/
namespace Go.V
open Go
theorem Sym.unall {w0 w : World} {S : Nat → Prop} : ∀ {l L : List HL}, Sym w0 S (HL.all l :: L) w → Sym w0 S (l ++ L) w
  | [], L, hs => hs.sub (HSub.skip (HSub.refl _))
  | h :: r, L, hs => by
    have h1 : Sym w0 S (h :: HL.all r :: L) w := Sym.unstar hs
    have h2 : Sym w0 S (HL.all r :: h :: L) w := h1.sub (HSub.pick 1 rfl (HSub.refl _))
    have h3 := Sym.unall (l := r) h2
    exact h3.sub ⟨_, (List.perm_middle (l₁ := r) (a := h) (l₂ := L)).symm, List.Sublist.refl _⟩
theorem Sym.all {w0 w : World} {S : Nat → Prop} : ∀ {l L : List HL}, Sym w0 S (l ++ L) w → Sym w0 S (HL.all l :: L) w
  | [], L, hs => hs.emp
  | h :: r, L, hs => by
    have h1 : Sym w0 S (r ++ h :: L) w := hs.sub ⟨_, List.perm_middle, List.Sublist.refl _⟩
    have h2 := Sym.all (l := r) h1
    exact Sym.star (h2.sub (HSub.pick 1 rfl (HSub.refl _)))
theorem Sym.keep {w0 w w' : World} {S : Nat → Prop} {K h : HL} {R : List HL} (hs : Sym w0 S (K :: R) w) {i : Nat} (hi : R[i]? = some h) (ho : Old K.supp w w') : h.holds w' := by
  have hm := List.mem_of_getElem? hi
  refine h.loc w w' (fun b hb => ho.block b (hs.supp h (List.mem_cons_of_mem _ hm) b hb).1 (fun hk => (List.pairwise_cons.1 hs.apart).1 h hm b hk hb)) (hs.holds h (List.mem_cons_of_mem _ hm))
theorem Sym.oldK {w0 w w' : World} {K : HL} {R : List HL} (hs : Sym w0 Nil (K :: R) w) (ho : Old K.supp w w') : Old Nil w0 w' :=
  hs.old.step ho fun i hi hk => by
    rcases (hs.supp K (List.mem_cons_self ..) i hk).2 with h | h
    · omega
    · exact h
theorem Sym.ltK {w0 w : World} {S : Nat → Prop} {K : HL} {R : List HL} (hs : Sym w0 S (K :: R) w) : ∀ b, K.supp b → b < w.heap.size := fun b hb => (hs.supp K (List.mem_cons_self ..) b hb).1
theorem Ok.results1 {C : Cx} {F : Fr} {L : List HL} {a : Act} {w : World} (ok : Ok C F L a w) {fn : Func} {x : ResultVar} {v : Value} (hr : fn.results = #[x]) (h : Holds C F L x v) : (results fn a.tmps).run C.P w = .ok v w := V.results1 hr h ok
end Go.V
/- Diagrams as data, part f: the count by which the program decides whether a diagram is planar. -/
namespace Go.V
open Go
def fillTo (v : Int) (N a : Nat) : List Int := (List.range N).map fun i => if i < a then v else 0
theorem fillTo_len (v : Int) (N a : Nat) : (fillTo v N a).length = N := by simp [fillTo]
theorem fillTo_zero (v : Int) (N : Nat) : fillTo v N 0 = List.replicate N 0 := by
  apply List.ext_getElem?; intro i
  simp only [fillTo, List.getElem?_map, List.getElem?_replicate]
  by_cases h : i < N <;> simp [h]
theorem fillTo_succ {v : Int} {N a : Nat} (h : a < N) : (fillTo v N a).set a v = fillTo v N (a + 1) := by
  apply List.ext_getElem?
  intro i
  rw [List.getElem?_set, fillTo_len]
  by_cases hi : i < N
  · by_cases e : a = i
    · subst e; simp [fillTo, hi]
    · simp only [if_neg e, fillTo, List.getElem?_map, List.getElem?_range hi, Option.map_some]
      have : (i < a) ↔ (i < a + 1) := by omega
      simp [this]
  · rw [if_neg (by omega), List.getElem?_eq_none (by simp [fillTo_len]; omega), List.getElem?_eq_none (by simp [fillTo_len]; omega)]
def cntOs (os : List Int) (m : Nat) (j : Nat) : Nat := ((os.take m).filter fun x => decide (x = (j : Int))).length
def cntRs (os : List Int) (rs : List (Value × List Nat)) (t : Nat) (j : Nat) : Nat := ((rs.take t).filter fun a => decide (os.getD (a.2.headD 0 / 4) 0 = (j : Int))).length
def leftAt (os : List Int) (rs : List (Value × List Nat)) (k m t : Nat) : List Int := (List.range k).map fun j => 2 + (cntOs os m j : Int) - (cntRs os rs t j : Int)
theorem leftAt_len (os : List Int) (rs : List (Value × List Nat)) (k m t : Nat) : (leftAt os rs k m t).length = k := by simp [leftAt]
theorem leftAt_zero (os : List Int) (rs : List (Value × List Nat)) (k : Nat) : leftAt os rs k 0 0 = fillTo 2 k k := by
  simp only [leftAt, fillTo]
  exact List.map_congr_left fun i hi => by rw [if_pos (List.mem_range.1 hi)]; simp [cntOs, cntRs]
theorem leftAt_get {os : List Int} {rs : List (Value × List Nat)} {k m t j : Nat} (h : j < k) : (leftAt os rs k m t)[j]? = some (2 + (cntOs os m j : Int) - (cntRs os rs t j : Int)) := by simp [leftAt, h]
theorem cntOs_succ {os : List Int} {m : Nat} {x : Int} (hx : os[m]? = some x) (j : Nat) : cntOs os (m + 1) j = cntOs os m j + if x = (j : Int) then 1 else 0 := by
  simp only [cntOs, List.take_add_one, hx, List.filter_append, List.length_append]
  by_cases h : x = (j : Int) <;> simp [h]
theorem cntRs_succ {os : List Int} {rs : List (Value × List Nat)} {t : Nat} {a : Value × List Nat} (ha : rs[t]? = some a) (j : Nat) : cntRs os rs (t + 1) j = cntRs os rs t j + if os.getD (a.2.headD 0 / 4) 0 = (j : Int) then 1 else 0 := by
  simp only [cntRs, List.take_add_one, ha, List.filter_append, List.length_append]
  by_cases h : os.getD (a.2.headD 0 / 4) 0 = (j : Int)
  · rw [if_pos h]; simp only [Option.toList, List.filter_cons, List.filter_nil, decide_eq_true h, if_true, List.length_singleton]
  · rw [if_neg h]; simp only [Option.toList, List.filter_cons, List.filter_nil, decide_eq_false h, Bool.false_eq_true, if_false, List.length_nil]
theorem cntOs_le (os : List Int) (m j : Nat) : cntOs os m j ≤ os.length := by
  have h1 := List.length_filter_le (fun x => decide (x = (j : Int))) (os.take m); have h2 := List.length_take_le' m os; simp only [cntOs]; omega
theorem cntRs_le (os : List Int) (rs : List (Value × List Nat)) (t j : Nat) : cntRs os rs t j ≤ rs.length := by
  have h1 := List.length_filter_le (fun a : Value × List Nat => decide (os.getD (a.2.headD 0 / 4) 0 = (j : Int))) (rs.take t); have h2 := List.length_take_le' t rs; simp only [cntRs]; omega
theorem left_up {os : List Int} {rs : List (Value × List Nat)} {k m t x : Nat} (hx : os[m]? = some (x : Int)) (hk : x < k) : (leftAt os rs k m t).set x (2 + (cntOs os m x : Int) - (cntRs os rs t x : Int) + 1) = leftAt os rs k (m + 1) t := by
  apply List.ext_getElem?
  intro i
  rw [List.getElem?_set, leftAt_len]
  by_cases hi : i < k
  · by_cases e : x = i
    · subst e; rw [if_pos rfl, if_pos hk, leftAt_get hk, cntOs_succ hx]; simp; omega
    · have : ¬ ((x : Int) = (i : Int)) := by omega
      rw [if_neg e, leftAt_get hi, leftAt_get hi, cntOs_succ hx]; simp [this]
  · rw [if_neg (by omega), List.getElem?_eq_none (by simp [leftAt_len]; omega), List.getElem?_eq_none (by simp [leftAt_len]; omega)]
theorem left_down {os : List Int} {rs : List (Value × List Nat)} {k m t x : Nat} {a : Value × List Nat} (ha : rs[t]? = some a) (hx : os[a.2.headD 0 / 4]? = some (x : Int)) (hk : x < k) : (leftAt os rs k m t).set x (2 + (cntOs os m x : Int) - (cntRs os rs t x : Int) - 1) = leftAt os rs k m (t + 1) := by
  have hg : os.getD (a.2.headD 0 / 4) 0 = (x : Int) := by rw [List.getD_eq_getElem?_getD, hx]; rfl
  apply List.ext_getElem?
  intro i
  rw [List.getElem?_set, leftAt_len]
  by_cases hi : i < k
  · by_cases e : x = i
    · subst e; rw [if_pos rfl, if_pos hk, leftAt_get hk, cntRs_succ ha, hg]; simp; omega
    · have : ¬ ((x : Int) = (i : Int)) := by omega
      rw [if_neg e, leftAt_get hi, leftAt_get hi, cntRs_succ ha, hg]; simp [this]
  · rw [if_neg (by omega), List.getElem?_eq_none (by simp [leftAt_len]; omega), List.getElem?_eq_none (by simp [leftAt_len]; omega)]
theorem filter_length_congr {α : Type} {f g : α → Bool} : ∀ {l : List α}, (∀ x ∈ l, f x = g x) → (l.filter f).length = (l.filter g).length := fun h => by rw [List.filter_congr h]
theorem cntOs_piece {d : Dia} {os : List Int} {k : Nat} (hP : PInv d os k) {c j : Nat} (hc : os[c]? = some (j : Int)) : cntOs os d.cross.length j = (pieceOf d c).length := by
  have hos : os = (List.range d.cross.length).map fun i => os.getD i 0 := by
    apply List.ext_getElem?; intro i
    by_cases hi : i < d.cross.length
    · obtain ⟨y, hy⟩ := get_of_lt (l := os) (i := i) (by rw [hP.len]; exact hi)
      simp [hi, hy]
    · rw [List.getElem?_eq_none (by rw [hP.len]; omega), List.getElem?_eq_none (by simp; omega)]
  rw [cntOs, List.take_of_length_le (by rw [hP.len]; exact Nat.le_refl _)]
  conv => lhs; rw [hos]
  rw [List.filter_map, List.length_map, pieceOf]
  refine filter_length_congr fun i hi => ?_
  have hi := List.mem_range.1 hi
  obtain ⟨y, hy⟩ := get_of_lt (l := os) (i := i) (by rw [hP.len]; exact hi)
  have := hP.cls c i j hc (by omega) hi
  rw [hy] at this
  simp only [Function.comp, List.getD_eq_getElem?_getD, hy, Option.getD_some]
  by_cases e : y = (j : Int)
  · rw [connB_iff.2 (this.1 (by rw [e]))]; simp [e]
  · rw [connB_false.2 (fun h => e (Option.some.inj (this.2 h)))]; simp [e]
theorem cntRs_piece {d : Dia} {os : List Int} {k : Nat} (hP : PInv d os k) {rs : List (Value × List Nat)} (hr : rs.map Prod.snd = regsOf d) {c j : Nat} (hc : os[c]? = some (j : Int)) : cntRs os rs rs.length j = cntReg d c := by
  rw [cntReg_rs hr, cntRs, List.take_length]
  refine filter_length_congr fun a ha => ?_
  have hi := (regs_head (d := d) (Q := 4 * d.cross.length) hr (Nat.le_refl _) ha).1
  obtain ⟨y, hy⟩ := get_of_lt (l := os) (i := a.2.headD 0 / 4) (by rw [hP.len]; exact hi)
  have := hP.cls c _ j hc (by omega) hi
  rw [hy] at this
  simp only [List.getD_eq_getElem?_getD, hy, Option.getD_some]
  by_cases e : y = (j : Int)
  · rw [connB_iff.2 (this.1 (by rw [e]))]; simp [e]
  · rw [connB_false.2 (fun h => e (Option.some.inj (this.2 h)))]; simp [e]
theorem planar_of_left {d : Dia} {os : List Int} {k : Nat} (hP : PInv d os k) (hall : ∀ c, c < d.cross.length → ∃ x, os[c]? = some x ∧ 0 ≤ x) {rs : List (Value × List Nat)} (hr : rs.map Prod.snd = regsOf d)
    (h : ∀ j, j < k → 2 + (cntOs os d.cross.length j : Int) - (cntRs os rs rs.length j : Int) = 0) : PlanarP d := fun c hc => by
  obtain ⟨x, hx, h0⟩ := hall c hc
  have hxk := (hP.lo c x hx).2
  have hx' : os[c]? = some ((x.toNat : Nat) : Int) := by rw [Int.toNat_of_nonneg h0]; exact hx
  have := h x.toNat (by omega)
  rw [cntOs_piece hP hx', cntRs_piece hP hr hx'] at this
  omega
theorem left_of_planar {d : Dia} {os : List Int} {k : Nat} (hP : PInv d os k) {rs : List (Value × List Nat)} (hr : rs.map Prod.snd = regsOf d) (h : PlanarP d) {j : Nat} (hj : j < k) : 2 + (cntOs os d.cross.length j : Int) - (cntRs os rs rs.length j : Int) = 0 := by
  obtain ⟨c, hc⟩ := hP.onto j hj
  have hl : c < d.cross.length := by rw [← hP.len]; exact (List.getElem?_eq_some_iff.1 hc).1
  have := h c hl
  rw [cntOs_piece hP hc, cntRs_piece hP hr hc]
  omega
theorem Sym.re {w0 w : World} {S : Nat → Prop} {L : List HL} {h h' : HL} (i : Nat) (hs : Sym w0 S L w) (hi : L[i]? = some h) (e : h = h') : Sym w0 S (L.set i h') w := by
  subst e
  have : L.set i h = L := by
    apply List.ext_getElem?; intro j
    rw [List.getElem?_set]
    split
    · rename_i e; subst e; split
      · exact hi.symm
      · rename_i hn; rw [List.getElem?_eq_none (by omega)]
    · rfl
  rw [this]; exact hs
noncomputable def entV (d : Dia) (b : Nat) : Value := bif decide (checkI d = 0) then ptrV b else .pointer none
noncomputable def entH (base : Option Addr) (cap : Nat) (d : Dia) (g : Nat × Value) : HL := bif decide (checkI d = 0) then HL.all [HL.obj g.1 (.cells #[.slice base d.cross.length cap, iv d.loops, g.2] 89 (0, 0)), HL.own 112 4 g.2 (2 * d.cross.length) ((endsL d).flatMap encAE)] else HL.emp
theorem entV_ok {d : Dia} (h : checkI d = 0) (b : Nat) : entV d b = ptrV b := by rw [entV, decide_eq_true h]; rfl
theorem entV_bad {d : Dia} (h : checkI d ≠ 0) (b : Nat) : entV d b = .pointer none := by rw [entV, decide_eq_false h]; rfl
theorem entH_ok {base : Option Addr} {cap : Nat} {d : Dia} (h : checkI d = 0) (g : Nat × Value) : entH base cap d g = HL.all [HL.obj g.1 (.cells #[.slice base d.cross.length cap, iv d.loops, g.2] 89 (0, 0)), HL.own 112 4 g.2 (2 * d.cross.length) ((endsL d).flatMap encAE)] := by rw [entH, decide_eq_true h]; rfl
theorem entH_bad {base : Option Addr} {cap : Nat} {d : Dia} (h : checkI d ≠ 0) (g : Nat × Value) : entH base cap d g = HL.emp := by rw [entH, decide_eq_false h]; rfl
theorem checkI_ok {d : Dia} : checkI d = 0 ↔ SoundP d ∧ PlanarP d := by
  rw [checkI, ← soundB_iff, ← planarB_iff]
  cases soundB d <;> cases planarB d <;> simp
theorem checkI_unsound {d : Dia} (h : soundB d = false) : checkI d = 220 := by rw [checkI, h]; rfl
theorem checkI_unplanar {d : Dia} (h : SoundP d) (k : ¬ PlanarP d) : checkI d = 221 := by
  rw [checkI, soundB_iff.2 h]
  have : planarB d = false := Bool.eq_false_iff.2 (fun e => k (planarB_iff.1 e))
  rw [this]; rfl
theorem own_ends_ok {d : Dia} (h : SoundP d) (v : Value) : HL.own 112 4 v (endsN d) (endsC d) = HL.own 112 4 v (2 * d.cross.length) ((endsL d).flatMap encAE) := by simp only [endsN, endsC, soundB_iff.2 h, cond_true]
theorem DgAt.of_own {w : World} {b cap : Nat} {base : Option Addr} {A : Addr} {d : Dia} {av : Value} {t : TypeId} {fz : Nat × Nat} (hd : DiaAt w base A d) (ho : w.heap[b]? = some (.cells #[.slice base d.cross.length cap, iv d.loops, av] t fz)) (hw : w.ownsRow 0 112 4 av (2 * d.cross.length) ((endsL d).flatMap encAE)) : DgAt w b base A cap d av :=
  ⟨cell_of_obj ho rfl, cell_of_obj ho rfl, cell_of_obj ho rfl, hd, own_shape hw, own_all hw⟩
end Go.V
/- Diagrams as data, part g: linking numbers. -/
namespace Go.V
open Go
def lowC (of : List Int) (x : Cr) : Int := of.getD x.a0.toNat 0
def upC (of : List Int) (x : Cr) : Int := of.getD x.a1.toNat 0
def linkOne (of : List Int) (i j : Int) (x : Cr) : Int := if lowC of x = i ∧ upC of x = j ∨ lowC of x = j ∧ upC of x = i then x.s else 0
def linkTo (of : List Int) (l : List Cr) (i j : Int) (c : Nat) : Int := ((l.take c).map (linkOne of i j)).sum
def linkSum (d : Dia) (i j : Int) : Int := linkTo (compOf d) d.cross i j d.cross.length
theorem linkTo_succ {of : List Int} {l : List Cr} {i j : Int} {c : Nat} {x : Cr} (hx : l[c]? = some x) : linkTo of l i j (c + 1) = linkTo of l i j c + linkOne of i j x := by
  simp only [linkTo, List.take_add_one, hx, Option.toList_some, List.map_append, List.sum_append]
  simp
theorem linkOne_bound {of : List Int} {i j : Int} {x : Cr} (h : x.s = 1 ∨ x.s = -1) : -1 ≤ linkOne of i j x ∧ linkOne of i j x ≤ 1 := by
  simp only [linkOne]; split <;> omega
theorem linkTo_bound {of : List Int} {l : List Cr} {i j : Int} (h : ∀ x ∈ l, x.s = 1 ∨ x.s = -1) : ∀ c : Nat, -(c : Int) ≤ linkTo of l i j c ∧ linkTo of l i j c ≤ c := by
  intro c
  induction c with
  | zero => simp [linkTo]
  | succ c ih =>
    rcases Nat.lt_or_ge c l.length with hc | hc
    · obtain ⟨x, hx⟩ := get_of_lt hc
      have := linkOne_bound (of := of) (i := i) (j := j) (h x (List.mem_of_getElem? hx))
      rw [linkTo_succ hx]; omega
    · have e : linkTo of l i j (c + 1) = linkTo of l i j c := by simp only [linkTo]; rw [List.take_of_length_le (by omega), List.take_of_length_le hc]
      rw [e]; omega
theorem tdiv2_bound {s : Int} {n : Int} (h : -n ≤ s) (h2 : s ≤ n) (hn : 0 ≤ n) : -n ≤ s.tdiv 2 ∧ s.tdiv 2 ≤ n := by
  rw [Int.tdiv_eq_ediv]
  have : Int.sign 2 = 1 := rfl
  split <;> omega
def LinkBad (d : Dia) (i j : Int) : Prop := i < 0 ∨ j < 0 ∨ (compCount d : Int) + d.loops ≤ i ∨ (compCount d : Int) + d.loops ≤ j ∨ i = j
instance (d : Dia) (i j : Int) : Decidable (LinkBad d i j) := by unfold LinkBad; infer_instance
def linkR (d : Dia) (i j : Int) : Int := if LinkBad d i j then 0 else (linkSum d i j).tdiv 2
def linkE (d : Dia) (i j : Int) : Int := if LinkBad d i j then 1 else 0
end Go.V
/- The proof layer, part k: comparison of a slice with nil. -/
namespace Go.V
open Go
section nil
variable {C : Cx} {F : Fr} {L : List HL} {o : Oper}
theorem eq_nil {P : Program} {t e : TypeId} (ht : P.underlying t = some (.slice e)) (d : Nat) (a : Option Addr) (n c : Nat) (w : World) : (Op.equalIn (d + 1) t (.slice a n c) (.slice none 0 0)).run P w = .ok a.isNone w := by
  unfold Op.equalIn
  cases a <;> simp [run_underlying ht]
theorem Still.eqlNil {xt yt e : TypeId} {x y : Operand} {a : Option Addr} {n c : Nat} (ho : o.op = .binOp .eql xt x y yt) (hx : F.ev x = some (.slice a n c)) (hy : F.ev y = some (.slice none 0 0)) (ht : C.P.underlying xt = some (.slice e)) : Still C o F L (.bool a.isNone) :=
  ⟨fun c h => (by rw [ho] at h; cases h), fun a w ok => by
    have := eq_nil ht 9999 ‹Option Addr› n c w
    simp only [execOp, ho, ok.fr.ev hx, ok.fr.ev hy]; simp [eqGuard, binOp, Op.equal, Op.maxDepth, this]⟩
theorem Still.build_0 {t : TypeId} (g : Value) (ho : o.op = .build t #[]) (hr : ∀ w, (Instr.build t #[]).run C.P w = .ok g w) : Still C o F L g := Still.build (vs := #[]) ho (by simp) hr
end nil
end Go.V
/- Diagrams as data, part h: changed diagrams. -/
namespace Go.V
open Go
theorem encCr_len (x : Cr) : (encCr x).length = 5 := rfl
theorem encCr_one (l : List Cr) : (l.flatMap encCr).all Value.oneCell' = true := by
  rw [List.all_eq_true]
  intro u hu
  obtain ⟨x, _, hx⟩ := List.mem_flatMap.1 hu
  simp [encCr] at hx
  rcases hx with rfl | rfl | rfl | rfl | rfl <;> rfl
theorem DiaAt.cells {w : World} {base : Option Addr} {A : Addr} {d : Dia} (h : DiaAt w base A d) : Cells w A (d.cross.flatMap encCr) := fun j v hj => by
  rw [flat_get_inv encCr_len (by decide)] at hj
  cases hx : d.cross[j / 5]? with
  | none => rw [hx] at hj; cases hj
  | some x =>
    rw [hx] at hj
    have := h.cell (j / 5) x hx (j % 5) v hj
    rw [add_add] at this
    rwa [show j / 5 * 5 + j % 5 = j by omega] at this
theorem DiaAt.cells' {w : World} {base : Option Addr} {A B : Addr} {d : Dia} (h : DiaAt w base A d) (hb : base = some B) : Cells w B (d.cross.flatMap encCr) := by
  rcases Nat.eq_zero_or_pos d.cross.length with h0 | h0
  · have : d.cross = [] := List.length_eq_zero_iff.1 h0
    rw [this]; exact Cells.nil _ _
  · have := h.base h0
    rw [hb] at this
    cases this
    exact h.cells
theorem DiaAt.of_cells {w : World} {base : Option Addr} {A : Addr} {d : Dia} (hb : 0 < d.cross.length → base = some A) (hc : Cells w A (d.cross.flatMap encCr)) (hl : d.cross.length ≤ 9223372036854775807) (hw : ∀ x ∈ d.cross, x.Wf) (ho : In64 d.loops) : DiaAt w base A d :=
  ⟨hb, fun i x hi j v hj => by
    have := hc (i * 5 + j) v (flat_get encCr_len hi hj)
    rwa [← add_add] at this, hl, hw, ho⟩
def mapTo (f : Cr → Cr) (l : List Cr) (c : Nat) : List Cr := (l.take c).map f ++ l.drop c
theorem mapTo_len (f : Cr → Cr) (l : List Cr) (c : Nat) : (mapTo f l c).length = l.length := by simp [mapTo]; omega
theorem mapTo_get {f : Cr → Cr} {l : List Cr} {c : Nat} {x : Cr} (hx : l[c]? = some x) : (mapTo f l c)[c]? = some x := by
  have hc := (List.getElem?_eq_some_iff.1 hx).1
  rw [mapTo, List.getElem?_append_right (by simp; omega)]
  simp [Nat.min_eq_left (Nat.le_of_lt hc), hx]
theorem mapTo_set {f : Cr → Cr} {l : List Cr} {c : Nat} {x : Cr} (hx : l[c]? = some x) : (mapTo f l c).set c (f x) = mapTo f l (c + 1) := by
  obtain ⟨hc, e⟩ := List.getElem?_eq_some_iff.1 hx
  rw [mapTo, mapTo, List.set_append_right _ _ (by simp; omega), List.take_add_one, hx, List.map_append, List.append_assoc]
  congr 1
  rw [List.drop_eq_getElem_cons hc, e]
  simp [Nat.min_eq_left (Nat.le_of_lt hc)]
theorem mapTo_zero (f : Cr → Cr) (l : List Cr) : mapTo f l 0 = l := by simp [mapTo]
theorem mapTo_all (f : Cr → Cr) (l : List Cr) : mapTo f l l.length = l.map f := by simp [mapTo]
def mapD (f : Cr → Cr) (d : Dia) : Dia := ⟨d.cross.map f, d.loops⟩
theorem mapD_len (f : Cr → Cr) (d : Dia) : (mapD f d).cross.length = d.cross.length := by simp [mapD]
/-- The crossings of a diagram that the call owns. -/
def ownD (g : Option Addr × Nat) (d : Dia) : HL := HL.own 62 5 (.slice g.1 d.cross.length g.2) d.cross.length (d.cross.flatMap encCr)
abbrev OKB (g : Option Addr × Nat) (n : Nat) : Prop := 0 < n → g.1 = some (vaddr (.slice g.1 n g.2))
theorem wf_of_sound {d : Dia} (h : SoundP d) : (∀ x ∈ d.cross, x.Wf) ∧ In64 d.loops ∧ d.cross.length ≤ 9223372036854775807 := by
  have h0 := h.1
  refine ⟨fun x hx => ?_, ⟨by have := h.2.1; omega, by have := h.2.2.1; omega⟩, by omega⟩
  have hs := (h.2.2.2.1 x hx).1
  have hp := (h.2.2.2.1 x hx).2
  have p0 : 0 ≤ x.a0 ∧ x.a0 < 2 * d.cross.length := hp 0 (by omega)
  have p1 : 0 ≤ x.a1 ∧ x.a1 < 2 * d.cross.length := hp 1 (by omega)
  have p2 : 0 ≤ x.a2 ∧ x.a2 < 2 * d.cross.length := hp 2 (by omega)
  have p3 : 0 ≤ x.a3 ∧ x.a3 < 2 * d.cross.length := hp 3 (by omega)
  exact ⟨⟨by omega, by omega⟩, ⟨by omega, by omega⟩, ⟨by omega, by omega⟩, ⟨by omega, by omega⟩, ⟨by omega, by omega⟩⟩
theorem DiaAt.of_ownD {w : World} {g : Option Addr × Nat} {d : Dia} (hs : SoundP d) (ho : (ownD g d).holds w) : DiaAt w g.1 (vaddr (.slice g.1 d.cross.length g.2)) d := by
  have hw := wf_of_sound hs
  have ho' : w.ownsRow 0 62 5 (.slice g.1 d.cross.length g.2) d.cross.length (d.cross.flatMap encCr) := ho
  obtain ⟨b, c, e, hb⟩ := own_shape ho'
  cases e
  exact DiaAt.of_cells hb (own_all ho') hw.2.2 hw.1 hw.2.1
/-- The mirror image of a crossing; its reflection. -/
def mirCr (x : Cr) : Cr := if x.s = 1 then ⟨x.a3, x.a0, x.a1, x.a2, -1⟩ else ⟨x.a1, x.a2, x.a3, x.a0, 1⟩
theorem cr_snoc {l : List Cr} {y : Cr} {vs : List Value} (h : vs = encCr y) : l.flatMap encCr ++ vs = (l ++ [y]).flatMap encCr := by
  subst h; rw [List.flatMap_append]; simp
end Go.V
/- The proof layer, part l: strings. -/
namespace Go.V
open Go
section str
variable {C : Cx} {F : Fr} {L : List HL} {o : Oper}
theorem eqGuard_str (op : BinOp) (t : TypeId) (x y : Operand) (s u : ByteArray) : eqGuard op t x y (.string s) (.string u) = pure () := by
  cases op <;> rfl
theorem Still.cat {xt yt : TypeId} {x y : Operand} {s u : ByteArray} (ho : o.op = .binOp .add xt x y yt) (hx : F.ev x = some (.string s)) (hy : F.ev y = some (.string u)) (hl : s.size + u.size ≤ 9223372036854775807) : Still C o F L (.string (s ++ u)) :=
  ⟨fun c h => (by rw [ho] at h; cases h), fun a w ok => by
    have h : ¬ (((s.size + u.size : Nat) : Int) > IntKind.i64.max) := by simp [IntKind.max, IntKind.bits, IntKind.signed]; omega
    simp only [execOp, ho, ok.fr.ev hx, ok.fr.ev hy, eqGuard_str]
    simp [binOp, Op.stringOp]; omega⟩
theorem Still.eqlStr {xt yt : TypeId} {x y : Operand} {s u : ByteArray} (ho : o.op = .binOp .eql xt x y yt) (hx : F.ev x = some (.string s)) (hy : F.ev y = some (.string u)) : Still C o F L (.bool (s.toList == u.toList)) :=
  ⟨fun c h => (by rw [ho] at h; cases h), fun a w ok => by
    simp only [execOp, ho, ok.fr.ev hx, ok.fr.ev hy, eqGuard_str]
    simp [binOp, Op.stringOp]⟩
/-- A string that is known. -/
theorem Still.eqlStrT {xt yt : TypeId} {x y : Operand} {s u : ByteArray} (ho : o.op = .binOp .eql xt x y yt) (hx : F.ev x = some (.string s)) (hy : F.ev y = some (.string u)) (he : s = u) : Still C o F L (.bool true) := by
  have := Still.eqlStr (C := C) (L := L) ho hx hy
  rwa [he, beq_self_eq_true] at this
/-- 's[:i]'. -/
theorem Still.sliceTo {t e : TypeId} {x y : Operand} {base : Option Addr} {n cap i size : Nat} {k : IntKind} (ho : o.op = .slice t x none (some y) none) (hx : F.ev x = some (.slice base n cap)) (hy : F.ev y = some (.int k (i : Int))) (ht : C.P.underlying t = some (.slice e)) (hz : ∀ w, (sizeOf e).run C.P w = .ok size w)
    (hi : i ≤ cap) : Still C o F L (.slice base i cap) :=
  ⟨fun c h => (by rw [ho] at h; cases h), fun a w ok => by
    have e0 : ∀ A : Addr, A.add 0 = A := fun A => by simp [Addr.add]
    simp only [execOp, ho, ok.fr.ev hx, Option.map, ok.fr.ev hy]
    by_cases h0 : cap = 0
    · obtain rfl : i = 0 := by omega
      cases base <;> simp [Instr.sliceAt, Instr.slice, run_underlying ht, Instr.sliceBounds, Instr.sliceBound, asIntOf, hz, e0, h0]
    · cases base <;> simp [Instr.sliceAt, Instr.slice, run_underlying ht, Instr.sliceBounds, Instr.sliceBound, asIntOf, hz, hi, e0]⟩
end str
end Go.V
/- Lists of numbers as arguments. -/
namespace Go.V
open Go
abbrev lisV (base : Option Addr) (cap : Nat) (xs : List Int) : Value := .slice base xs.length cap
structure IntsAt (w : World) (base : Option Addr) (A : Addr) (cap : Nat) (xs : List Int) : Prop where
  base : 0 < xs.length → base = some A
  cell : Cells w A (ints xs)
  le : xs.length ≤ cap
  len : cap ≤ 9223372036854775807
theorem IntsAt.old {w w' : World} {base : Option Addr} {A : Addr} {cap : Nat} {xs : List Int} (h : IntsAt w base A cap xs) (ho : Old Nil w w') : IntsAt w' base A cap xs := ⟨h.base, fun j v hj => ho.cell (h.cell j v hj) (fun x => x), h.le, h.len⟩
theorem IntsAt.sym {w w' : World} {L : List HL} {base : Option Addr} {A : Addr} {cap : Nat} {xs : List Int} (h : IntsAt w base A cap xs) (hs : Sym w Nil L w') : IntsAt w' base A cap xs := h.old hs.old
theorem IntsAt.shape {w : World} {base : Option Addr} {A : Addr} {cap : Nat} {xs : List Int} (h : IntsAt w base A cap xs) : Shape (lisV base cap xs) xs.length := shape_slice h.base
theorem IntsAt.cells {w : World} {base : Option Addr} {A : Addr} {cap : Nat} {xs : List Int} (h : IntsAt w base A cap xs) (n : Nat) : Cells w (vaddr (.slice base n cap)) (ints xs) := by
  rcases Nat.eq_zero_or_pos xs.length with h0 | h0
  · rw [List.length_eq_zero_iff.1 h0]; exact fun j v hj => by simp [ints] at hj
  · rw [h.base h0]; exact h.cell
theorem IntsAt.pre {w : World} {base : Option Addr} {A : Addr} {cap : Nat} {xs : List Int} (h : IntsAt w base A cap xs) {i : Nat} (hi : i ≤ xs.length) : Shape (.slice base i cap) (xs.take i).length ∧ Cells w (vaddr (.slice base i cap)) (ints (xs.take i)) := by
  have hl : (xs.take i).length = i := by simp; omega
  rw [hl]
  refine ⟨shape_slice (A := A) fun h0 => h.base (by omega), fun j v hj => h.cells i j v ?_⟩
  simp only [ints, List.getElem?_map, List.getElem?_take] at hj ⊢
  split at hj
  · exact hj
  · simp at hj
def distB (xs : List Int) (n : Int) : Bool := decide (xs.Nodup ∧ ∀ x ∈ xs, 0 ≤ x ∧ x < n)
theorem nodup_take_succ {xs : List Int} {i : Nat} {y : Int} (hy : xs[i]? = some y) (h : (xs.take i).Nodup) (hn : y ∉ xs.take i) : (xs.take (i + 1)).Nodup := by
  rw [List.take_add_one, hy]
  simp only [Option.toList_some]
  rw [List.nodup_append]
  refine ⟨h, by simp, fun a ha b hb e => ?_⟩
  rw [List.mem_singleton.1 hb] at e
  exact hn (e ▸ ha)
theorem not_nodup {xs : List Int} {i : Nat} {y : Int} (hy : xs[i]? = some y) (hm : y ∈ xs.take i) : ¬ xs.Nodup := fun h => by
  obtain ⟨j, hj⟩ := List.getElem?_of_mem hm
  have hji : j < i := by have := (List.getElem?_eq_some_iff.1 hj).1; simp at this; omega
  rw [List.getElem?_take_of_lt hji] at hj
  obtain ⟨h1, e1⟩ := List.getElem?_eq_some_iff.1 hj
  obtain ⟨h2, e2⟩ := List.getElem?_eq_some_iff.1 hy
  exact (List.pairwise_iff_getElem.1 (List.nodup_iff_pairwise_ne.1 h)) j i h1 h2 hji (e1.trans e2.symm)
end Go.V
/- Diagrams as data, part i: texts. -/
namespace Go.V
open Go
def numS (n : Int) : ByteArray := ⟨(Lib.decDigits n.toNat).toArray⟩
theorem decDigits_len {u : Nat} (h : u < 100) : (Lib.decDigits u).length ≤ 2 := by
  rw [Lib.decDigits]
  split
  · simp
  · rw [Lib.decDigits, dif_pos (by omega)]; simp
theorem numS_size {n : Int} (h0 : 0 ≤ n) (h : n < 100) : (numS n).size ≤ 2 := by
  have := decDigits_len (u := n.toNat) (by omega)
  simpa [numS, ByteArray.size] using this
def sgnS (x : Cr) : ByteArray := if x.s < 0 then ⟨#[45]⟩ else ⟨#[43]⟩
def crTo (x : Cr) : Nat → ByteArray
  | 0 => sgnS x
  | p + 1 => crTo x p ++ (⟨#[32]⟩ ++ numS (x.arc p))
/-- Small numbers. -/
def SmallCr (x : Cr) : Prop := ∀ p, p < 4 → 0 ≤ x.arc p ∧ x.arc p < 100
theorem sgnS_size (x : Cr) : (sgnS x).size = 1 := by rw [sgnS]; split <;> rfl
theorem crTo_size {x : Cr} (h : SmallCr x) : ∀ p, p ≤ 4 → (crTo x p).size ≤ 1 + 3 * p
  | 0, _ => by rw [crTo, sgnS_size]; omega
  | p + 1, hp => by
    have h1 := crTo_size h p (by omega)
    have h2 := numS_size (h p (by omega)).1 (h p (by omega)).2
    rw [crTo, ByteArray.size_append, ByteArray.size_append, show (⟨#[32]⟩ : ByteArray).size = 1 from rfl]; omega
def crS (x : Cr) : ByteArray := crTo x 4
def semiS : ByteArray := ⟨#[59, 32]⟩
def barS : ByteArray := ⟨#[32, 124, 32]⟩
def joinS (xs : List ByteArray) : ByteArray := ⟨(Lib.join (xs.map (·.data.toList)) semiS.data.toList).toArray⟩
def textOf (d : Dia) : ByteArray := if d.cross.length = 0 then numS d.loops else joinS (d.cross.map crS) ++ barS ++ numS d.loops
def strs (l : List ByteArray) : List Value := l.map Value.string
theorem strs_snoc (l : List ByteArray) (s : ByteArray) : strs l ++ [.string s] = strs (l ++ [s]) := by simp [strs]
theorem lens_le {k : Nat} : ∀ {l : List ByteArray}, (∀ s ∈ l, s.size ≤ k) → Lib.lens (l.map (·.data.toList)) ≤ k * l.length
  | [], _ => Nat.zero_le _
  | s :: r, h => by
    have h1 := lens_le (l := r) (fun x hx => h x (List.mem_cons_of_mem _ hx))
    have h2 := h s (List.mem_cons_self ..)
    have h3 : s.data.toList.length = s.size := Array.length_toList
    simp only [Lib.lens, List.map_cons, List.sum_cons, List.length_cons, h3] at h1 ⊢
    rw [Nat.mul_add]; omega
theorem join_len {k : Nat} {l : List ByteArray} (h : ∀ s ∈ l, s.size ≤ k) : (Lib.join (l.map (·.data.toList)) semiS.data.toList).length ≤ (k + 2) * l.length := by
  cases l with
  | nil => exact Nat.zero_le _
  | cons s r =>
    have h1 := lens_le h
    rw [List.map_cons] at h1 ⊢
    rw [Lib.join_length]
    have : semiS.data.toList.length = 2 := rfl
    rw [this]
    simp only [List.length_map, List.length_cons] at h1 ⊢
    rw [Nat.add_mul]; omega
theorem joinS_size {k : Nat} {l : List ByteArray} (h : ∀ s ∈ l, s.size ≤ k) : (joinS l).size ≤ (k + 2) * l.length := by
  have := join_len h
  simpa [joinS, ByteArray.size] using this
theorem crS_take {d : Dia} (h : ∀ x ∈ d.cross, SmallCr x) : ∀ s ∈ d.cross.map crS, s.size ≤ 13 := fun s hs => by
  obtain ⟨x, hx, rfl⟩ := List.mem_map.1 hs
  exact crTo_size (h x hx) 4 (by omega)
end Go.V
/- Diagrams as data, part j: the chapter's examples. -/
namespace Go.V
open Go
def hopfD : Dia := ⟨[⟨0, 3, 1, 2, 1⟩, ⟨3, 0, 2, 1, 1⟩], 0⟩
def flatD : Dia := ⟨[⟨0, 3, 1, 2, 1⟩, ⟨3, 1, 2, 0, -1⟩], 0⟩
def mirH : Dia := ⟨[⟨2, 0, 3, 1, -1⟩, ⟨1, 3, 0, 2, -1⟩], 0⟩
theorem hopf_sound : SoundP hopfD := by unfold SoundP; decide +kernel
theorem flat_sound : SoundP flatD := by unfold SoundP; decide +kernel
theorem mirH_sound : SoundP mirH := by unfold SoundP; decide +kernel
theorem mir_hopf : mapD mirCr hopfD = mirH := by decide +kernel
theorem planar_of_conn {d : Dia} (h : ∀ c c', c < d.cross.length → c' < d.cross.length → Conn d c c') (hn : (regsOf d).length = d.cross.length + 2) : PlanarP d := fun c hc => by
  have h1 : pieceOf d c = List.range d.cross.length := by
    rw [pieceOf, List.filter_eq_self]
    intro x hx
    exact connB_iff.2 (h c x hc (List.mem_range.1 hx))
  have h2 : cntReg d c = (regsOf d).length := by
    rw [cntReg, List.filter_eq_self.2]
    intro r hr
    obtain ⟨q, hq, e⟩ := regsTo_mem d _ r hr
    have := (regionOf_head (d := d) (q := q) (by omega)).1
    rw [e, this]
    exact connB_iff.2 (h c _ hc (by omega))
  rw [h1, h2, List.length_range, hn]
theorem conn_two {d : Dia} (hs : SoundP d) (hl : d.cross.length = 2) {p : Nat} (hp : p < 4) (h : otherQ d (4 * 0 + p) / 4 = 1) : ∀ c c', c < d.cross.length → c' < d.cross.length → Conn d c c' := by
  have h01 : Conn d 0 1 := h ▸ Conn.step .refl hp
  have h10 : Conn d 1 0 := h01.symm hs (by omega)
  intro c c' hc hc'
  have h1 : c = 0 ∨ c = 1 := by omega
  have h2 : c' = 0 ∨ c' = 1 := by omega
  rcases h1 with rfl | rfl <;> rcases h2 with rfl | rfl
  · exact .refl
  · exact h01
  · exact h10
  · exact .refl
theorem hopf_ok : checkI hopfD = 0 := checkI_ok.2 ⟨hopf_sound, planar_of_conn (conn_two hopf_sound rfl (p := 0) (by decide) (by decide +kernel)) (by decide +kernel)⟩
theorem mirH_ok : checkI mirH = 0 := checkI_ok.2 ⟨mirH_sound, planar_of_conn (conn_two mirH_sound rfl (p := 0) (by decide) (by decide +kernel)) (by decide +kernel)⟩
theorem flat_bad : checkI flatD = 221 := checkI_unplanar flat_sound fun h => by
  have h1 := h 0 (by decide)
  have h2 : cntReg flatD 0 ≤ (regsOf flatD).length := List.length_filter_le _ _
  have h3 : (regsOf flatD).length = 2 := by decide +kernel
  have h4 : 0 < (pieceOf flatD 0).length := List.length_pos_of_mem (piece_self (by decide))
  omega
theorem hopf_comp : compOf hopfD = [0, 0, 1, 1] := by decide +kernel
theorem hopf_count : compCount hopfD = 2 := by decide +kernel
theorem hopf_writhe : writhe hopfD = 2 := by decide +kernel
theorem hopf_linkR : linkR hopfD 0 1 = 1 := by decide +kernel
theorem hopf_linkE : linkE hopfD 0 1 = 0 := by decide +kernel
theorem hopf_regs : (regsOf hopfD).length = 4 := by decide +kernel
theorem mirH_small : ∀ x ∈ mirH.cross, SmallCr x := by unfold SmallCr; decide +kernel
theorem num_small {i : Nat} (h : i < 10) : numS (i : Int) = ⟨#[UInt8.ofNat (48 + i)]⟩ := by
  rw [numS, Int.toNat_natCast, Lib.decDigits, dif_pos h]
theorem mirH_text : textOf mirH = ⟨#[45, 32, 50, 32, 48, 32, 51, 32, 49, 59, 32, 45, 32, 49, 32, 51, 32, 48, 32, 50, 32, 124, 32, 48]⟩ := by
  have n0 := num_small (i := 0) (by decide)
  have n1 := num_small (i := 1) (by decide)
  have n2 := num_small (i := 2) (by decide)
  have n3 := num_small (i := 3) (by decide)
  simp only [textOf, mirH, List.length_cons, List.length_nil, List.map_cons, List.map_nil, crS, crTo, Cr.arc, sgnS]
  simp only [show ((0 : Nat) : Int) = 0 from rfl, show ((1 : Nat) : Int) = 1 from rfl, show ((2 : Nat) : Int) = 2 from rfl, show ((3 : Nat) : Int) = 3 from rfl] at n0 n1 n2 n3
  rw [n0, n1, n2, n3]
  decide +kernel
end Go.V
