/- The proof layer, part a: frames as association lists, memory as a list of heaplets. -/
import Derived.WalkKit
import Derived.RangeFuncIn
import Derived.RangeFuncRecord
import Derived.OrdersIn
import Derived.StillTail
namespace Go.V
open Go

/-- The fence that lets everything in; 'r': the round in which the code runs. -/
def FW (r : Option Nat) : Fence := { fn := fun _ => True, depth := none, alive := false, round := r }
theorem FW_room (r : Option Nat) (n : Nat) : (FW r).room n := fun _ h => by simp [FW] at h
theorem callsFW {r : Option Nat} {n : Nat} {P : Program} {f : FuncId} {args : Array Value} {w : World} {R : Ending → World → Prop} :
    CallsIn (FW r) n P f args w R ↔ Calls P f args w R := by
  have e : CallsIn (FW r) n P f args w R ↔ CallsIn Fence.wide n P f args w R := Iff.rfl
  exact e.trans callsIn_wide

/-! ### Frames -/
abbrev Fr := List (Nat × Value)
def Fr.get : Fr → Nat → Option Value
  | [], _ => none
  | (k, v) :: r, t => bif Nat.beq k t then some v else Fr.get r t
def Fr.ev (F : Fr) : Operand → Option Value
  | .tmp t => F.get t
  | .const v => some v
  | .global g => some (.pointer (some ⟨g, 0, none⟩))
  | .func f => some (.func (.func f) #[] #[])
/-- The frame 'a' has 'n' slots, the deferred calls 'D', and holds what 'F' says. -/
structure At (n : Nat) (D : List Deferred) (F : Fr) (a : Act) : Prop where
  size : a.tmps.size = n
  defers : a.defers = D
  slot : ∀ t v, F.get t = some v → a.tmps[t]? = some v
theorem At.ev {n : Nat} {D : List Deferred} {F : Fr} {a : Act} (h : At n D F a) {x : Operand} {v : Value} (hx : F.ev x = some v) : a.eval x = v := by
  cases x with
  | tmp t => simp only [Fr.ev] at hx; have := h.slot t v hx; simp [Act.eval, Array.getD_eq_getD_getElem?, this]
  | const u => simpa [Fr.ev, Act.eval] using hx
  | global g => simpa [Fr.ev, Act.eval] using hx
  | func f => simpa [Fr.ev, Act.eval] using hx
theorem Fr.get_cons (F : Fr) (k t : Nat) (v : Value) : Fr.get ((k, v) :: F) t = if k = t then some v else F.get t := by
  simp only [Fr.get]
  by_cases h : k = t
  · subst h; simp
  · have : Nat.beq k t = false := Bool.eq_false_iff.2 (fun e => h (Nat.eq_of_beq_eq_true e))
    simp [this, h]
theorem At.put {n : Nat} {D : List Deferred} {F : Fr} {a : Act} (h : At n D F a) {d : Nat} (hd : d < n) (v : Value) : At n D ((d, v) :: F) (a.put (some d) v) := by
  refine ⟨by simp [Act.put, h.size], by simp [Act.put, h.defers], fun t u hu => ?_⟩
  rw [Fr.get_cons] at hu
  by_cases e : d = t
  · subst e
    rw [if_pos rfl] at hu
    have hs : d < a.tmps.size := by rw [h.size]; exact hd
    simp only [Act.put, Array.getElem?_setIfInBounds_self_of_lt hs]
    exact hu
  · rw [if_neg e] at hu
    simp only [Act.put]
    rw [Array.getElem?_setIfInBounds_ne e]
    exact h.slot t u hu
theorem At.put_none {n : Nat} {D : List Deferred} {F : Fr} {a : Act} (h : At n D F a) (v : Value) : At n D F (a.put none v) := h
/-- A put that is not recorded (in an unknown slot: forget the slot). -/
def Fr.forget (ts : List Nat) : Fr → Fr
  | [] => []
  | (k, v) :: r => bif ts.elem k then Fr.forget ts r else (k, v) :: Fr.forget ts r
theorem Fr.get_forget (ts : List Nat) (F : Fr) (t : Nat) : (F.forget ts).get t = if t ∈ ts then none else F.get t := by
  induction F with
  | nil => simp [Fr.forget, Fr.get]
  | cons p r ih =>
    obtain ⟨k, v⟩ := p
    simp only [Fr.forget]
    by_cases hk : k ∈ ts
    · have : ts.elem k = true := by simpa using hk
      rw [this, cond_true, ih, Fr.get_cons]
      by_cases e : k = t
      · subst e; simp [hk]
      · simp [e]
    · have : ts.elem k = false := by simpa using hk
      rw [this, cond_false, Fr.get_cons, Fr.get_cons, ih]
      by_cases e : k = t
      · subst e; simp [hk]
      · simp [e]
/-- 'F' says no more than 'F''. -/
def Fr.Sub (F F' : Fr) : Prop := ∀ t v, F.get t = some v → F'.get t = some v
theorem Fr.Sub.refl (F : Fr) : F.Sub F := fun _ _ h => h
theorem Fr.Sub.trans {F F' F'' : Fr} (h : F.Sub F') (h' : F'.Sub F'') : F.Sub F'' := fun t v k => h' t v (h t v k)
theorem Fr.Sub.nil (F : Fr) : Fr.Sub [] F := fun _ _ h => by simp [Fr.get] at h
theorem Fr.Sub.cons {F F' : Fr} {t : Nat} {v : Value} (h : F'.get t = some v) (hs : Fr.Sub F F') : Fr.Sub ((t, v) :: F) F' := fun s u hu => by
  rw [Fr.get_cons] at hu
  by_cases e : t = s
  · subst e; rw [if_pos rfl] at hu; exact h.trans hu
  · rw [if_neg e] at hu; exact hs s u hu
theorem Fr.Sub.forget (ts : List Nat) (F : Fr) : Fr.Sub (F.forget ts) F := fun t v h => by
  rw [Fr.get_forget] at h
  by_cases e : t ∈ ts
  · simp [e] at h
  · simpa [e] using h
/-- Slots that are written anew do not disturb what is said of the others. -/
theorem Fr.Sub.skip {F F' : Fr} {ts : List Nat} {t : Nat} {v : Value} (ht : t ∈ ts) (h : Fr.Sub (F.forget ts) F') : Fr.Sub (F.forget ts) ((t, v) :: F') := fun s u hu => by
  have h1 := h s u hu
  rw [Fr.get_forget] at hu
  rw [Fr.get_cons]
  by_cases e : t = s
  · subst e; simp [ht] at hu
  · rw [if_neg e]; exact h1
theorem Fr.Sub.skips {F F' : Fr} {ts : List Nat} : ∀ (es : Fr), es.all (fun p => ts.elem p.1) = true → Fr.Sub (F.forget ts) F' → Fr.Sub (F.forget ts) (es ++ F')
  | [], _, h => h
  | (k, v) :: r, hb, h => by
    simp only [List.all_cons, Bool.and_eq_true] at hb
    exact Fr.Sub.skip (by simpa using hb.1) (Fr.Sub.skips r hb.2 h)
theorem At.sub {n : Nat} {D : List Deferred} {F F' : Fr} {a : Act} (h : At n D F' a) (hs : F.Sub F') : At n D F a := ⟨h.size, h.defers, fun t v k => h.slot t v (hs t v k)⟩

/-! ### Memory -/
/-- Outside 'S' what lay in 'w0' lies in 'w' as it lay. -/
structure Old (S : Nat → Prop) (w0 w : World) : Prop where
  os : w.os = w0.os
  tape : w.tape = w0.tape
  output : w.output = w0.output
  size : w0.heap.size ≤ w.heap.size
  block : ∀ k, k < w0.heap.size → ¬ S k → w.heap[k]? = w0.heap[k]?
abbrev Nil : Nat → Prop := fun _ => False
theorem Old.refl (S : Nat → Prop) (w : World) : Old S w w := ⟨rfl, rfl, rfl, Nat.le_refl _, fun _ _ _ => rfl⟩
theorem Old.trans {S : Nat → Prop} {a b c : World} (h : Old S a b) (k : Old S b c) : Old S a c :=
  ⟨k.os.trans h.os, k.tape.trans h.tape, k.output.trans h.output, Nat.le_trans h.size k.size,
   fun i hi hs => (k.block i (Nat.lt_of_lt_of_le hi h.size) hs).trans (h.block i hi hs)⟩
theorem Old.mono {S S' : Nat → Prop} {a b : World} (h : Old S a b) (hs : ∀ k, k < a.heap.size → S k → S' k) : Old S' a b :=
  ⟨h.os, h.tape, h.output, h.size, fun i hi hn => h.block i hi (fun hk => hn (hs i hi hk))⟩
/-- A later step that may turn 'S'', all of it new or in 'S'. -/
theorem Old.step {S S' : Nat → Prop} {a b c : World} (h : Old S a b) (k : Old S' b c) (hs : ∀ i, i < a.heap.size → S' i → S i) : Old S a c :=
  ⟨k.os.trans h.os, k.tape.trans h.tape, k.output.trans h.output, Nat.le_trans h.size k.size,
   fun i hi hn => (k.block i (Nat.lt_of_lt_of_le hi h.size) (fun x => hn (hs i hi x))).trans (h.block i hi hn)⟩
theorem Old.cell {S : Nat → Prop} {w0 w : World} (h : Old S w0 w) {a : Addr} {v : Value} (hc : w0.cell? a = some v) (hs : ¬ S a.block) : w.cell? a = some v :=
  (World.cell?_of_block (h.block a.block (World.block_lt_of_cell? w0 a hc) hs)).trans hc
theorem Old.below {w0 w : World} (h : Old Nil w0 w) : RowKit.Below w0.heap.size w0 w := ⟨h.os, h.tape, h.output, h.size, fun k hk => h.block k hk (fun x => x)⟩
theorem Old.of_below {w0 w : World} (h : RowKit.Below w0.heap.size w0 w) : Old Nil w0 w := ⟨h.os, h.tape, h.output, h.size, fun k hk _ => h.block k hk⟩
theorem heap_alloc_lt (w : World) (o : Obj) (k : Nat) (h : k < w.heap.size) : (w.alloc o).heap[k]? = w.heap[k]? := RowKit.Below.heap_alloc w o k h
theorem heap_alloc_new (w : World) (o : Obj) : (w.alloc o).heap[w.heap.size]? = some o := World.alloc_heap_new w o
theorem Old.alloc (S : Nat → Prop) (w : World) (o : Obj) : Old S w (w.alloc o) := ⟨rfl, rfl, rfl, by simp, fun k hk _ => heap_alloc_lt w o k hk⟩
theorem Old.drew (S : Nat → Prop) (w : World) : Old S w w.drew := ⟨rfl, rfl, rfl, Nat.le_refl _, fun _ _ _ => rfl⟩

/-- A heaplet: the blocks that it speaks of, what it says; it says nothing of other blocks. -/
structure HL where
  supp : Nat → Prop
  holds : World → Prop
  loc : ∀ w w', (∀ b, supp b → w'.heap[b]? = w.heap[b]?) → holds w → holds w'
/-- Block 'b' is the object 'o'. -/
def HL.obj (b : Nat) (o : Obj) : HL := ⟨fun k => k = b, fun w => w.heap[b]? = some o, fun _ _ h hh => (h b rfl).trans hh⟩
/-- Nothing. -/
def HL.emp : HL := ⟨fun _ => False, fun _ => True, fun _ _ _ h => h⟩
def HL.star (h k : HL) : HL := ⟨fun b => h.supp b ∨ k.supp b, fun w => h.holds w ∧ k.holds w ∧ ∀ b, h.supp b → ¬ k.supp b,
  fun w w' hs hh => ⟨h.loc w w' (fun b hb => hs b (.inl hb)) hh.1, k.loc w w' (fun b hb => hs b (.inr hb)) hh.2.1, hh.2.2⟩⟩
/-- The memory 'w', which began as 'w0': outside S what lay lies; the heaplets hold, apart from each other, in S or in what is new. -/
structure Sym (w0 : World) (S : Nat → Prop) (L : List HL) (w : World) : Prop where
  old : Old S w0 w
  holds : ∀ h ∈ L, h.holds w
  supp : ∀ h ∈ L, ∀ b, h.supp b → b < w.heap.size ∧ (w0.heap.size ≤ b ∨ S b)
  apart : L.Pairwise fun h k => ∀ b, h.supp b → ¬ k.supp b
theorem Sym.nil (w : World) (S : Nat → Prop) : Sym w S [] w := ⟨Old.refl S w, fun h hh => (by cases hh), fun h hh => (by cases hh), List.Pairwise.nil⟩
theorem Sym.at {w0 w : World} {S : Nat → Prop} {L : List HL} (hs : Sym w0 S L w) {i : Nat} {h : HL} (hi : L[i]? = some h) : h.holds w := hs.holds h (List.mem_of_getElem? hi)
theorem Sym.lt {w0 w : World} {S : Nat → Prop} {L : List HL} (hs : Sym w0 S L w) {i : Nat} {b : Nat} {o : Obj} (hi : L[i]? = some (HL.obj b o)) : b < w.heap.size :=
  (hs.supp _ (List.mem_of_getElem? hi) b rfl).1
theorem Sym.base {w0 w : World} {S : Nat → Prop} {L : List HL} (hs : Sym w0 S L w) {a : Addr} {v : Value} (hc : w0.cell? a = some v) (hn : ¬ S a.block) : w.cell? a = some v := hs.old.cell hc hn
theorem cell_of_obj {w : World} {b k : Nat} {cs : Array Value} {t : TypeId} {fz : Nat × Nat} {v : Value} (h : w.heap[b]? = some (.cells cs t fz)) (hk : cs[k]? = some v) : w.cell? ⟨b, k, none⟩ = some v := by
  simp [World.cell?, h, hk]
/-- Nothing that is said turns: new blocks beside. -/
theorem Sym.grow {w0 w w' : World} {S : Nat → Prop} {L H : List HL} (hs : Sym w0 S L w) (ho : Old Nil w w')
    (hh : ∀ h ∈ H, h.holds w') (hsupp : ∀ h ∈ H, ∀ b, h.supp b → w.heap.size ≤ b ∧ b < w'.heap.size) (hap : H.Pairwise fun h k => ∀ b, h.supp b → ¬ k.supp b) : Sym w0 S (H ++ L) w' := by
  refine ⟨hs.old.step ho (fun _ _ x => x.elim), fun h hm => ?_, fun h hm b hb => ?_, ?_⟩
  · rcases List.mem_append.1 hm with hm | hm
    · exact hh h hm
    · exact h.loc w w' (fun b hb => ho.block b (hs.supp h hm b hb).1 (fun x => x)) (hs.holds h hm)
  · rcases List.mem_append.1 hm with hm | hm
    · have := hsupp h hm b hb
      have := hs.old.size
      exact ⟨by omega, .inl (by omega)⟩
    · have := hs.supp h hm b hb
      have := ho.size
      exact ⟨by omega, (hs.supp h hm b hb).2⟩
  · refine List.pairwise_append.2 ⟨hap, hs.apart, fun h hm k km b hb kb => ?_⟩
    have := hsupp h hm b hb
    have := hs.supp k km b kb
    omega
theorem Sym.grow0 {w0 w w' : World} {S : Nat → Prop} {L : List HL} (hs : Sym w0 S L w) (ho : Old Nil w w') : Sym w0 S L w' := by
  have := hs.grow (H := []) ho (fun h hh => (by cases hh)) (fun h hh => (by cases hh)) List.Pairwise.nil
  simpa using this
theorem Sym.alloc {w0 w : World} {S : Nat → Prop} {L : List HL} (hs : Sym w0 S L w) (o : Obj) : Sym w0 S (HL.obj w.heap.size o :: L) (w.alloc o) :=
  hs.grow (H := [HL.obj w.heap.size o]) (Old.alloc Nil w o) (fun h hm => by rcases List.mem_singleton.1 hm with rfl; exact heap_alloc_new w o)
    (fun h hm b hb => by rcases List.mem_singleton.1 hm with rfl; cases hb; simp) (List.pairwise_singleton _ _)
theorem Sym.drew {w0 w : World} {S : Nat → Prop} {L : List HL} (hs : Sym w0 S L w) : Sym w0 S L w.drew := hs.grow0 (Old.drew Nil w)
/-- Heaplet i is turned into another one, over its blocks or over new ones; nothing else turns. -/
theorem Sym.turn {w0 w w' : World} {S : Nat → Prop} {L : List HL} (hs : Sym w0 S L w) {i : Nat} {h h' : HL} (hi : L[i]? = some h) (hsup : ∀ b, h'.supp b → (h.supp b ∨ w.heap.size ≤ b) ∧ b < w'.heap.size)
    (ho : Old h.supp w w') (hh : h'.holds w') : Sym w0 S (L.set i h') w' := by
  have him : h ∈ L := List.mem_of_getElem? hi
  obtain ⟨hlt, hget⟩ := List.getElem?_eq_some_iff.1 hi
  have key : ∀ k ∈ L.set i h', k = h' ∨ (k ∈ L ∧ ∀ b, h.supp b → ¬ k.supp b) := by
    intro k hk
    obtain ⟨j, hj, hjk⟩ := List.getElem_of_mem hk
    rw [List.length_set] at hj
    by_cases e : i = j
    · subst e; left; rw [← hjk, List.getElem_set_self]
    · right
      rw [List.getElem_set_ne e] at hjk
      refine ⟨hjk ▸ List.getElem_mem hj, fun b hb kb => ?_⟩
      have hp := List.pairwise_iff_getElem.1 hs.apart
      rcases Nat.lt_or_gt_of_ne e with hlt' | hgt'
      · exact hp i j hlt hj hlt' b (hget.symm ▸ hb) (hjk ▸ kb)
      · exact hp j i hj hlt hgt' b (hjk ▸ kb) (hget.symm ▸ hb)
  refine ⟨hs.old.step ho (fun k hk hk' => ?_), fun k hk => ?_, fun k hk b hb => ?_, ?_⟩
  · rcases (hs.supp h him k hk').2 with hx | hx
    · omega
    · exact hx
  · rcases key k hk with rfl | ⟨hm, hd⟩
    · exact hh
    · exact k.loc w w' (fun b hb => ho.block b (hs.supp k hm b hb).1 (fun x => hd b x hb)) (hs.holds k hm)
  · have hz := ho.size
    have hz0 := hs.old.size
    rcases key k hk with rfl | ⟨hm, _⟩
    · obtain ⟨h1, h2⟩ := hsup b hb
      rcases h1 with h1 | h1
      · exact ⟨h2, (hs.supp h him b h1).2⟩
      · exact ⟨h2, .inl (by omega)⟩
    · have h1 := hs.supp k hm b hb; exact ⟨by omega, h1.2⟩
  · refine List.pairwise_iff_getElem.2 (fun p q hp hq hpq b hb kb => ?_)
    have hpw := List.pairwise_iff_getElem.1 hs.apart
    rw [List.length_set] at hp hq
    by_cases e : i = p
    · subst e
      rw [List.getElem_set_self] at hb
      rw [List.getElem_set_ne (by omega)] at kb
      rcases (hsup b hb).1 with h1 | h1
      · exact hpw i q hp hq hpq b (hget.symm ▸ h1) kb
      · have := (hs.supp _ (List.getElem_mem hq) b kb).1; omega
    · rw [List.getElem_set_ne e] at hb
      by_cases e' : i = q
      · subst e'
        rw [List.getElem_set_self] at kb
        rcases (hsup b kb).1 with h1 | h1
        · exact hpw p i hp hq hpq b hb (hget.symm ▸ h1)
        · have := (hs.supp _ (List.getElem_mem hp) b hb).1; omega
      · rw [List.getElem_set_ne e'] at kb
        exact hpw p q hp hq hpq b hb kb
theorem heap_setCell {w : World} {b k : Nat} {cs : Array Value} {t : TypeId} {fz : Nat × Nat} (h : w.heap[b]? = some (.cells cs t fz)) (v : Value) :
    (w.setCell ⟨b, k, none⟩ v).heap[b]? = some (.cells (cs.setIfInBounds k v) t fz) := by
  simp [World.setCell, Array.getElem?_modify, h]
theorem Old.setCell {S : Nat → Prop} (w : World) (a : Addr) (v : Value) (hS : S a.block) : Old S w (w.setCell a v) :=
  ⟨rfl, rfl, rfl, by simp, fun k _ hk => RowKit.Below.heap_setCell w a v k (fun e => hk (by subst e; exact hS))⟩
theorem Sym.setCell {w0 w : World} {S : Nat → Prop} {L : List HL} (hs : Sym w0 S L w) {i b k : Nat} {cs : Array Value} {t : TypeId} {fz : Nat × Nat} (hi : L[i]? = some (HL.obj b (.cells cs t fz))) (v : Value) :
    Sym w0 S (L.set i (HL.obj b (.cells (cs.setIfInBounds k v) t fz))) (w.setCell ⟨b, k, none⟩ v) :=
  hs.turn hi (fun c h => ⟨.inl h, by have e : c = b := h; subst e; have := hs.lt hi; simpa using this⟩) (Old.setCell w _ v rfl) (heap_setCell (hs.at hi) v)
/-- What is said is forgotten, or said in another order. -/
def HSub (L L' : List HL) : Prop := ∃ M, L.Perm M ∧ M.Sublist L'
theorem HSub.refl (L : List HL) : HSub L L := ⟨L, List.Perm.refl _, List.Sublist.refl _⟩
theorem HSub.nil (L : List HL) : HSub [] L := ⟨[], List.Perm.refl _, List.nil_sublist _⟩
theorem perm_eraseIdx {α : Type} : ∀ {L : List α} {i : Nat} {x : α}, L[i]? = some x → L.Perm (x :: L.eraseIdx i)
  | [], i, x, h => by simp at h
  | y :: r, 0, x, h => by simp at h; subst h; simp
  | y :: r, i + 1, x, h => by
    have h' : r[i]? = some x := by simpa using h
    simp only [List.eraseIdx_cons_succ]
    exact (List.Perm.cons y (perm_eraseIdx h')).trans (List.Perm.swap x y _)
theorem HSub.pick {L L' : List HL} {h : HL} (i : Nat) (hi : L'[i]? = some h) (hk : HSub L (L'.eraseIdx i)) : HSub (h :: L) L' := by
  obtain ⟨M, hp, hs⟩ := hk
  obtain ⟨M', hp', hs'⟩ := List.exists_perm_sublist (List.Sublist.cons_cons h hs) (perm_eraseIdx hi).symm
  exact ⟨M', (List.Perm.cons h hp).trans hp'.symm, hs'⟩
theorem apart_symm {h k : HL} (hk : ∀ b, h.supp b → ¬ k.supp b) : ∀ b, k.supp b → ¬ h.supp b := fun b kb hb => hk b hb kb
theorem Sym.sub {w0 w : World} {S : Nat → Prop} {L L' : List HL} (hs : Sym w0 S L' w) (h : HSub L L') : Sym w0 S L w := by
  obtain ⟨M, hp, hl⟩ := h
  refine ⟨hs.old, fun h hm => hs.holds h (hl.subset (hp.mem_iff.1 hm)), fun h hm => hs.supp h (hl.subset (hp.mem_iff.1 hm)), ?_⟩
  exact (hp.pairwise_iff (fun {x y} h => apart_symm h)).2 (hs.apart.sublist hl)
/-- Two heaplets become one. -/
theorem Sym.join {w0 w : World} {S : Nat → Prop} {L : List HL} {h k : HL} (hs : Sym w0 S (h :: k :: L) w) : Sym w0 S (HL.star h k :: L) w := by
  have h1 := List.pairwise_cons.1 hs.apart
  have h2 := List.pairwise_cons.1 h1.2
  refine ⟨hs.old, fun x hx => ?_, fun x hx b hb => ?_, List.pairwise_cons.2 ⟨fun x hx b hb xb => ?_, h2.2⟩⟩
  · rcases List.mem_cons.1 hx with rfl | hx
    · exact ⟨hs.holds h (by simp), hs.holds k (by simp), h1.1 k (by simp)⟩
    · exact hs.holds x (by simp [hx])
  · rcases List.mem_cons.1 hx with rfl | hx
    · rcases hb with hb | hb
      · exact hs.supp h (by simp) b hb
      · exact hs.supp k (by simp) b hb
    · exact hs.supp x (by simp [hx]) b hb
  · rcases hb with hb | hb
    · exact h1.1 x (by simp [hx]) b hb xb
    · exact h2.1 x hx b hb xb
/-- A heaplet is read as another one. -/
theorem Sym.weaken {w0 w : World} {S : Nat → Prop} {L : List HL} {h k : HL} (hs : Sym w0 S (h :: L) w) (hh : h.holds w → k.holds w) (hsup : ∀ b, k.supp b → h.supp b) : Sym w0 S (k :: L) w := by
  have h1 := List.pairwise_cons.1 hs.apart
  refine ⟨hs.old, fun x hx => ?_, fun x hx b hb => ?_, List.pairwise_cons.2 ⟨fun x hx b hb => h1.1 x hx b (hsup b hb), h1.2⟩⟩
  · rcases List.mem_cons.1 hx with rfl | hx
    · exact hh (hs.holds h (by simp))
    · exact hs.holds x (by simp [hx])
  · rcases List.mem_cons.1 hx with rfl | hx
    · exact hs.supp h (by simp) b (hsup b hb)
    · exact hs.supp x (by simp [hx]) b hb
end Go.V
/- The proof layer, part b: judgements over frames and heaplets; code; regions in the order of the text. -/
namespace Go.V
open Go

/-- What stays the same while one activation runs. -/
structure Cx where
  P : Program
  r : Option Nat
  n : Nat
  D : List Deferred
  w0 : World
  S : Nat → Prop
structure Ok (C : Cx) (F : Fr) (L : List HL) (a : Act) (w : World) : Prop where
  fr : At C.n C.D F a
  sym : Sym C.w0 C.S L w

def RunC (C : Cx) (c : Code) (Q : Exit → Act → World → Prop) (F : Fr) (L : List HL) : Prop := ∀ a w, Ok C F L a w → c.wpIn (FW C.r) 0 C.P Q a w
def RunL (C : Cx) (ops : Array Oper) (Q : Exit → Act → World → Prop) (l : List Oper) (F : Fr) (L : List HL) : Prop := ∀ a w, Ok C F L a w → wpListIn (FW C.r) 0 C.P ops Q l a w
def Ends (C : Cx) (e : Exit) (Q : Exit → Act → World → Prop) (F : Fr) (L : List HL) : Prop := ∀ a w, Ok C F L a w → Q e a w

section weaken
variable {C : Cx} {Q : Exit → Act → World → Prop} {F F' : Fr} {L L' : List HL}
theorem Ok.sub {a : Act} {w : World} (h : Ok C F' L' a w) (hF : F.Sub F') (hL : HSub L L') : Ok C F L a w := ⟨h.fr.sub hF, h.sym.sub hL⟩
theorem RunC.sub {c : Code} (h : RunC C c Q F L) (hF : F.Sub F') (hL : HSub L L') : RunC C c Q F' L' := fun a w ok => h a w (ok.sub hF hL)
theorem RunL.sub {ops : Array Oper} {l : List Oper} (h : RunL C ops Q l F L) (hF : F.Sub F') (hL : HSub L L') : RunL C ops Q l F' L' := fun a w ok => h a w (ok.sub hF hL)
theorem Ends.sub {e : Exit} (h : Ends C e Q F L) (hF : F.Sub F') (hL : HSub L L') : Ends C e Q F' L' := fun a w ok => h a w (ok.sub hF hL)
end weaken

/-! ### Code -/
section code
variable {C : Cx} {Q : Exit → Act → World → Prop} {F : Fr} {L : List HL}
theorem RunC.seq {x y : Code} (h : RunC C x (Exit.then (y.wpIn (FW C.r) 0 C.P Q) Q) F L) : RunC C (.seq x y) Q F L := fun a w ok => wpIn_seq (h a w ok)
theorem RunC.block {id : Nat} {c : Code} (h : RunC C c (Exit.inBlock id Q) F L) : RunC C (.block id c) Q F L := fun a w ok => wpIn_block (h a w ok)
theorem RunC.skip (h : Ends C .normal Q F L) : RunC C .skip Q F L := fun a w ok => wpIn_skip (h a w ok)
theorem RunC.exit {id : Nat} (h : Ends C (.exit id) Q F L) : RunC C (.exit id) Q F L := fun a w ok => wpIn_exit (h a w ok)
theorem RunC.ret (h : Ends C .ret Q F L) : RunC C .ret Q F L := fun a w ok => wpIn_ret (h a w ok)
theorem RunC.label {l : Nat} (h : Ends C .normal Q F L) : RunC C (.label l) Q F L := fun a w ok => wpIn_label (h a w ok)
theorem RunC.goto {l : Nat} (h : Ends C (.goto l) Q F L) : RunC C (.goto l) Q F L := fun a w ok => wpIn_goto (h a w ok)
/-- A slot that holds a Bool is decided. -/
theorem Ok.decide {t : Nat} {b c : Bool} {a : Act} {w : World} (ok : Ok C F L a w) (hb : F.get t = some (.bool b)) (e : b = c) : Ok C ((t, .bool c) :: F) L a w :=
  ⟨⟨ok.fr.size, ok.fr.defers, fun s v hv => by
    rw [Fr.get_cons] at hv
    by_cases h : t = s
    · subst h; rw [if_pos rfl] at hv; rw [← hv, ← e]; exact ok.fr.slot t _ hb
    · rw [if_neg h] at hv; exact ok.fr.slot s v hv⟩, ok.sym⟩
/-- What is known of a slot anyhow, once more. -/
theorem Ok.again {t : Nat} {v u : Value} {a : Act} {w : World} (ok : Ok C F L a w) (hb : F.get t = some v) (e : v = u) : Ok C ((t, u) :: F) L a w :=
  ⟨⟨ok.fr.size, ok.fr.defers, fun s x hv => by
    rw [Fr.get_cons] at hv
    by_cases h : t = s
    · subst h; rw [if_pos rfl] at hv; rw [← hv, ← e]; exact ok.fr.slot t _ hb
    · rw [if_neg h] at hv; exact ok.fr.slot s x hv⟩, ok.sym⟩
theorem RunC.cond {t : Nat} {x y : Code} {b : Bool} (hb : F.get t = some (.bool b)) (h1 : b = true → RunC C x Q F L) (h2 : b = false → RunC C y Q F L) : RunC C (.cond (.tmp t) x y) Q F L :=
  fun a w ok => wpIn_cond_split (t := b) (ok.fr.ev (x := .tmp t) hb) (fun e => h1 e a w ok) (fun e => h2 e a w ok)
theorem RunC.cond_true {t : Nat} {x y : Code} (hb : F.get t = some (.bool true)) (h1 : RunC C x Q F L) : RunC C (.cond (.tmp t) x y) Q F L :=
  fun a w ok => wpIn_cond_true (ok.fr.ev (x := .tmp t) hb) (h1 a w ok)
theorem RunC.cond_false {t : Nat} {x y : Code} (hb : F.get t = some (.bool false)) (h1 : RunC C y Q F L) : RunC C (.cond (.tmp t) x y) Q F L :=
  fun a w ok => wpIn_cond_false (ok.fr.ev (x := .tmp t) hb) (h1 a w ok)
theorem RunC.region {id : Nat} {l : List Oper} (h : RunL C l.toArray Q l F L) : RunC C (.region id l.toArray false) Q F L := fun a w ok => wpIn_region_lit (h a w ok)
theorem Ends.then {y : Code} (h : RunC C y Q F L) : Ends C .normal (Exit.then (y.wpIn (FW C.r) 0 C.P Q) Q) F L := h
theorem Ends.then_ret {K : Act → World → Prop} (h : Ends C .ret Q F L) : Ends C .ret (Exit.then K Q) F L := h
theorem Ends.then_exit {K : Act → World → Prop} {id : Nat} (h : Ends C (.exit id) Q F L) : Ends C (.exit id) (Exit.then K Q) F L := h
theorem Ends.block {id : Nat} (h : Ends C .normal Q F L) : Ends C .normal (Exit.inBlock id Q) F L := h
theorem Ends.block_ret {id : Nat} (h : Ends C .ret Q F L) : Ends C .ret (Exit.inBlock id Q) F L := h
theorem Ends.block_exit {id : Nat} (h : Ends C .normal Q F L) : Ends C (.exit id) (Exit.inBlock id Q) F L := fun a w ok => by simpa [Exit.inBlock] using h a w ok
theorem Ends.block_out {id id' : Nat} (hne : Nat.beq id id' = false) (h : Ends C (.exit id) Q F L) : Ends C (.exit id) (Exit.inBlock id' Q) F L := fun a w ok => by
  have : id ≠ id' := fun e => by subst e; simp at hne
  simpa [Exit.inBlock, this] using h a w ok
/-- The rounds of a loop: a family of states, a measure. -/
def Again (C : Cx) {γ : Type} (I : γ → Prop) (μ : γ → Nat) (Fi : γ → Fr) (Li : γ → List HL) (m : Nat) (a : Act) (w : World) : Prop := ∃ g, I g ∧ μ g < m ∧ Ok C (Fi g) (Li g) a w
theorem wpIn_loop_g {Fc : Fence} {n : Nat} {P : Program} {Q : Exit → Act → World → Prop} {a : Act} {w : World} {c : Code} {γ : Type} (I : γ → Act → World → Prop) (μ : γ → Nat) (g0 : γ) (h₀ : I g0 a w)
    (round : ∀ g a w, I g a w → c.wpIn Fc n P (Exit.then (fun a' w' => ∃ g', μ g' < μ g ∧ I g' a' w') Q) a w) : (Code.loop c).wpIn Fc n P Q a w := by
  intro b k cs hro hb hr
  have key : ∀ j g a w, μ g = j → I g a w →
      ∃ e a' w', Q e a' w' ∧ ArrivesIn (Machine.fenced P Fc) P (lone (b.atR a (.code c :: .inLoop c :: k)) cs w) b k cs e a' w' := by
    intro j
    induction j using Nat.strongRecOn with
    | _ j ih =>
      intro g a w hn hI
      obtain ⟨e, a₁, w₁, hq, harr⟩ := round g a w hI b (.inLoop c :: k) cs hro hb hr
      cases e with
      | normal =>
        obtain ⟨g', hlt, hI₁⟩ := hq
        obtain ⟨e₂, a₂, w₂, hq₂, harr₂⟩ := ih (μ g') (hn ▸ hlt) g' a₁ w₁ rfl hI₁
        exact ⟨e₂, a₂, w₂, hq₂, .of_steps (StepsIn.trans harr (.one (fenced_calm hb hr rfl) stepR_inLoop)) harr₂⟩
      | exit id => exact ⟨_, a₁, w₁, hq, .pass (x := .inLoop c) rfl (fun _ _ => .inl (by simp)) harr⟩
      | goto l => exact ⟨_, a₁, w₁, hq, .pass (x := .inLoop c) rfl (fun _ _ => .inl (by simp)) harr⟩
      | ret => exact ⟨_, a₁, w₁, hq, .pass (x := .inLoop c) rfl (fun _ _ => .inl (by simp)) harr⟩
      | panic ch => exact ⟨_, a₁, w₁, hq, .pass (x := .inLoop c) rfl (fun _ _ => .inl (by simp)) harr⟩
      | outgrown => exact ⟨_, a₁, w₁, hq, .pass (x := .inLoop c) rfl (fun _ _ => .inl (by simp)) harr⟩
  obtain ⟨e, a', w', hq, harr⟩ := key _ g0 a w rfl h₀
  exact ⟨e, a', w', hq, .of_steps (.one (fenced_calm hb hr rfl) stepR_loop) harr⟩
theorem RunC.loop {c : Code} {γ : Type} (I : γ → Prop) (μ : γ → Nat) (Fi : γ → Fr) (Li : γ → List HL) (g0 : γ) (h0 : I g0) (hF : (Fi g0).Sub F) (hL : HSub (Li g0) L)
    (round : ∀ g, I g → RunC C c (Exit.then (Again C I μ Fi Li (μ g)) Q) (Fi g) (Li g)) : RunC C (.loop c) Q F L := fun a w ok => by
  refine wpIn_loop_g (fun g a w => I g ∧ Ok C (Fi g) (Li g) a w) μ g0 ⟨h0, ok.sub hF hL⟩ ?_
  intro g a1 w1 ⟨hg, okg⟩
  refine wpIn_mono (round g hg a1 w1 okg) ?_
  intro e a2 w2 hq
  cases e <;> first | exact hq | (obtain ⟨g', hg', hm, ok'⟩ := hq; exact ⟨g', hm, hg', ok'⟩)
theorem Ends.again {γ : Type} {I : γ → Prop} {μ : γ → Nat} {Fi : γ → Fr} {Li : γ → List HL} {m : Nat} (g : γ) (hI : I g) (hm : μ g < m) (hF : (Fi g).Sub F) (hL : HSub (Li g) L) :
    Ends C .normal (Exit.then (Again C I μ Fi Li m) Q) F L := fun _ _ ok => ⟨g, hI, hm, ok.sub hF hL⟩
/-- Ways meet again: what the piece leaves is said by a family of states. -/
theorem RunC.meet {c : Code} {γ : Type} (I : γ → Prop) (Fi : γ → Fr) (Li : γ → List HL) (h : RunC C c (fun e a w => (e = .normal ∧ ∃ g, I g ∧ Ok C (Fi g) (Li g) a w) ∨ (e ≠ .normal ∧ Q e a w)) F L)
    (hk : ∀ g, I g → Ends C .normal Q (Fi g) (Li g)) : RunC C c Q F L := fun a w ok =>
  wpIn_mono (h a w ok) fun e a w hq => by
    rcases hq with ⟨rfl, g, hg, ok'⟩ | ⟨_, hq⟩
    · exact hk g hg a w ok'
    · exact hq
theorem Ends.meet {γ : Type} {I : γ → Prop} {Fi : γ → Fr} {Li : γ → List HL} (g : γ) (hI : I g) (hF : (Fi g).Sub F) (hL : HSub (Li g) L) :
    Ends C .normal (fun e a w => (e = .normal ∧ ∃ g, I g ∧ Ok C (Fi g) (Li g) a w) ∨ (e ≠ .normal ∧ Q e a w)) F L := fun _ _ ok => .inl ⟨rfl, g, hI, ok.sub hF hL⟩
theorem Ends.meet_other {γ : Type} {I : γ → Prop} {Fi : γ → Fr} {Li : γ → List HL} {e : Exit} (he : e ≠ .normal) (h : Ends C e Q F L) :
    Ends C e (fun e a w => (e = .normal ∧ ∃ g, I g ∧ Ok C (Fi g) (Li g) a w) ∨ (e ≠ .normal ∧ Q e a w)) F L := fun a w ok => .inr ⟨he, h a w ok⟩
end code

/-! ### Operations -/
/-- Does the guard let the operation in? none: it is not known. -/
def wants (ops : Array Oper) (F : Fr) (o : Oper) : Option Bool :=
  match o.guard with
  | none => some true
  | some (j, want) =>
    match (ops[j]?).bind (·.dst) with
    | none => some false
    | some t =>
      match F.get t with
      | some (.bool b) => some (b == want)
      | some (.tuple _) => some false
      | _ => none
theorem wants_ok {C : Cx} {F : Fr} {L : List HL} {a : Act} {w : World} {ops : Array Oper} {o : Oper} {x : Bool} (ok : Ok C F L a w) (h : wants ops F o = some x) : Region.wanted o (yielded ops a.tmps) = x := by
  unfold wants at h
  unfold Region.wanted
  cases hg : o.guard with
  | none => rw [hg] at h; simpa using h
  | some p =>
    obtain ⟨j, want⟩ := p
    rw [hg] at h
    simp only at h ⊢
    unfold yielded
    cases hd : (ops[j]?).bind (·.dst) with
    | none => rw [hd] at h; simpa using h
    | some t =>
      rw [hd] at h
      simp only [Option.bind_some] at h ⊢
      cases hv : F.get t with
      | none => rw [hv] at h; cases h
      | some v =>
        rw [hv] at h
        rw [ok.fr.slot t v hv]
        cases v <;> simp at h ⊢ <;> first | exact h | simp [← h]
def Still (C : Cx) (o : Oper) (F : Fr) (L : List HL) (v : Value) : Prop :=
  (∀ c, o.op ≠ .defer c) ∧ ∀ a w, Ok C F L a w → (execOp a.eval o).run C.P w = .ok (.value v) w
def Grows (C : Cx) (o : Oper) (F : Fr) (L : List HL) {γ : Type} (φ : γ → Prop) (V : γ → Value) (H : γ → List HL) : Prop :=
  ∀ a w, Ok C F L a w → ∀ (next : Act → World → Prop) (Q : Exit → Act → World → Prop), (∀ g w', φ g → Old Nil w w' → Sym C.w0 C.S (H g ++ L) w' → next (a.put o.dst (V g)) w') → o.wpIn (FW C.r) 0 C.P a w next Q
def Does (C : Cx) (o : Oper) (F : Fr) (L : List HL) {γ : Type} (φ : γ → Prop) (V : γ → Value) (L' : γ → List HL) : Prop :=
  ∀ a w, Ok C F L a w → ∀ (next : Act → World → Prop) (Q : Exit → Act → World → Prop), (∀ g w', φ g → Sym C.w0 C.S (L' g) w' → next (a.put o.dst (V g)) w') → o.wpIn (FW C.r) 0 C.P a w next Q
section ops
variable {C : Cx} {Q : Exit → Act → World → Prop} {F : Fr} {L : List HL} {ops : Array Oper} {o : Oper} {rest : List Oper}
theorem still_wpIn {v : Value} (hs : Still C o F L v) {a : Act} {w : World} (ok : Ok C F L a w) {next : Act → World → Prop} (h : next (a.put o.dst v) w) : o.wpIn (FW C.r) 0 C.P a w next Q := by
  refine ⟨fun _ _ => trivial, ?_⟩
  rw [Oper.semAt_eq _ _ _ hs.1, hs.2 a w ok]
  exact h
theorem RunL.nil (h : Ends C .normal Q F L) : RunL C ops Q [] F L := fun a w ok => h a w ok
theorem RunL.still {d : Nat} {v : Value} (hw : wants ops F o = some true) (hd : o.dst = some d) (hn : Nat.blt d C.n = true) (hs : Still C o F L v) (h : RunL C ops Q rest ((d, v) :: F) L) : RunL C ops Q (o :: rest) F L := fun a w ok => by
  unfold wpListIn
  rw [wants_ok ok hw, if_pos rfl]
  refine still_wpIn hs ok (h _ w ?_)
  rw [hd]
  exact ⟨ok.fr.put (by simpa using hn) v, ok.sym⟩
theorem RunL.off {d : Nat} (hw : wants ops F o = some false) (hd : o.dst = some d) (hn : Nat.blt d C.n = true) (h : RunL C ops Q rest ((d, undef) :: F) L) : RunL C ops Q (o :: rest) F L := fun a w ok => by
  unfold wpListIn
  rw [wants_ok ok hw, if_neg (by simp)]
  refine ⟨fun _ _ => trivial, h _ w ?_⟩
  rw [hd]
  exact ⟨ok.fr.put (by simpa using hn) _, ok.sym⟩
theorem RunL.grows {d : Nat} {γ : Type} {φ : γ → Prop} {V : γ → Value} {H : γ → List HL} (hw : wants ops F o = some true) (hd : o.dst = some d) (hn : Nat.blt d C.n = true) (hg : Grows C o F L φ V H)
    (h : ∀ g, φ g → RunL C ops Q rest ((d, V g) :: F) (H g ++ L)) : RunL C ops Q (o :: rest) F L := fun a w ok => by
  unfold wpListIn
  rw [wants_ok ok hw, if_pos rfl]
  refine hg a w ok _ _ (fun g w' hφ _ hs => h g hφ _ w' ?_)
  rw [hd]
  exact ⟨ok.fr.put (by simpa using hn) _, hs⟩
theorem RunL.does {d : Nat} {γ : Type} {φ : γ → Prop} {V : γ → Value} {L' : γ → List HL} (hw : wants ops F o = some true) (hd : o.dst = some d) (hn : Nat.blt d C.n = true) (hg : Does C o F L φ V L')
    (h : ∀ g, φ g → RunL C ops Q rest ((d, V g) :: F) (L' g)) : RunL C ops Q (o :: rest) F L := fun a w ok => by
  unfold wpListIn
  rw [wants_ok ok hw, if_pos rfl]
  refine hg a w ok _ _ (fun g w' hφ hs => h g hφ _ w' ?_)
  rw [hd]
  exact ⟨ok.fr.put (by simpa using hn) _, hs⟩
theorem RunL.does0 {γ : Type} {φ : γ → Prop} {V : γ → Value} {L' : γ → List HL} (hw : wants ops F o = some true) (hd : o.dst = none) (hg : Does C o F L φ V L')
    (h : ∀ g, φ g → RunL C ops Q rest F (L' g)) : RunL C ops Q (o :: rest) F L := fun a w ok => by
  unfold wpListIn
  rw [wants_ok ok hw, if_pos rfl]
  refine hg a w ok _ _ (fun g w' hφ hs => h g hφ _ w' ?_)
  rw [hd]
  exact ⟨ok.fr.put_none _, hs⟩
/-- A slot that holds a Bool is decided. -/
theorem RunL.split {t : Nat} {b : Bool} {l : List Oper} (hb : F.get t = some (.bool b)) (h1 : b = true → RunL C ops Q l ((t, .bool true) :: F) L) (h2 : b = false → RunL C ops Q l ((t, .bool false) :: F) L) : RunL C ops Q l F L := fun a w ok => by
  cases hbb : b
  · exact h2 hbb a w (ok.decide hb hbb)
  · exact h1 hbb a w (ok.decide hb hbb)
theorem RunL.again {t : Nat} {v u : Value} {l : List Oper} (hv : F.get t = some v) (e : v = u) (h : RunL C ops Q l ((t, u) :: F) L) : RunL C ops Q l F L := fun a w ok => h a w (ok.again hv e)
theorem RunC.again {t : Nat} {v u : Value} {c : Code} (hv : F.get t = some v) (e : v = u) (h : RunC C c Q ((t, u) :: F) L) : RunC C c Q F L := fun a w ok => h a w (ok.again hv e)
end ops

/-! ### A function's contract -/
/-- The call returns: there is a 'g' of which 'φ' holds; the result is 'V g'; outside S nothing has turned; the heaplets 'H g' lie in what is new, or in S. -/
def Ret (w : World) (S : Nat → Prop) {γ : Type} (φ : γ → Prop) (V : γ → Value) (H : γ → List HL) : Ending → World → Prop := fun e w' => ∃ g, φ g ∧ e = .returned (V g) ∧ Sym w S (H g) w'
def Gives (P : Program) (f : FuncId) (args : Array Value) (w : World) (S : Nat → Prop) {γ : Type} (φ : γ → Prop) (V : γ → Value) (H : γ → List HL) : Prop := Calls P f args w (Ret w S φ V H)
def entry : Nat → List Value → Fr
  | _, [] => []
  | i, v :: r => (i, v) :: entry (i + 1) r
theorem entry_get : ∀ (vs : List Value) (i t : Nat) (v : Value), (entry i vs).get t = some v → ∃ k, t = i + k ∧ vs[k]? = some v
  | [], _, _, _, h => by simp [entry, Fr.get] at h
  | u :: r, i, t, v, h => by
    simp only [entry, Fr.get_cons] at h
    by_cases e : i = t
    · rw [if_pos e] at h; exact ⟨0, by omega, by simpa using h⟩
    · rw [if_neg e] at h
      obtain ⟨k, hk, hv⟩ := entry_get r (i + 1) t v h
      exact ⟨k + 1, by omega, by simpa using hv⟩
theorem fn_of_run {P : Program} {f : FuncId} {fn : Func} {c : Code} {args : List Value} {n : Nat} {w : World} {S : Nat → Prop} {L : List HL} {R : Ending → World → Prop}
    (hf : P.funcs[f]? = some fn) (hb : fn.body = some c) (hn : fn.ntmps = n) (hl : args.length ≤ n) (hs : Sym w S L w)
    (h : RunC ⟨P, none, n, [], w, S⟩ c (bodyPost P fn R) (entry 0 args) L) : Calls P f args.toArray w R := by
  refine (callsFW (r := none) (n := 0)).1 (callsIn_of_wp hf hb trivial ?_)
  refine h _ w ⟨⟨?_, rfl, fun t v ht => ?_⟩, hs⟩
  · simp [hn]; omega
  · obtain ⟨k, hk, hv⟩ := entry_get args 0 t v ht
    have : t = k := by omega
    subst this
    have hlt : t < args.length := (List.getElem?_eq_some_iff.1 hv).1
    simp [Array.getElem?_append, hlt]
    simpa [List.getElem?_eq_getElem hlt] using hv
/-- What the result variables hold. -/
inductive Holds (C : Cx) (F : Fr) (L : List HL) : ResultVar → Value → Prop
  | tmp {t : Nat} {v : Value} (h : F.get t = some v) : Holds C F L (.tmp t) v
  | cell {t : Nat} {a : Addr} {ty : TypeId} {v : Value} (h : F.get t = some (.pointer (some a))) (hv : ∀ w, Sym C.w0 C.S L w → (loadVar ty a).run C.P w = .ok v w) : Holds C F L (.cell t ty) v
def resv (tmps : Array Value) : ResultVar → Sem Value
  | .tmp t => pure (tmps.getD t undef)
  | .cell a t => do loadVar t (← asAddr (tmps.getD a undef))
theorem results_eq (fn : Func) (tmps : Array Value) : results fn tmps = (do let vs ← fn.results.mapM (resv tmps); pure (if h : vs.size = 1 then vs[0] else .tuple vs)) := rfl
theorem Holds.run {C : Cx} {F : Fr} {L : List HL} {x : ResultVar} {v : Value} (h : Holds C F L x v) {a : Act} {w : World} (ok : Ok C F L a w) : (resv a.tmps x).run C.P w = .ok v w := by
  cases h with
  | tmp h => have := ok.fr.ev (x := .tmp _) h; simp only [Act.eval] at this; simp only [resv, this]; rfl
  | cell h hv => have := ok.fr.ev (x := .tmp _) h; simp only [Act.eval] at this; simp only [resv, this]; simp [asAddr, hv w ok.sym]
theorem results1 {C : Cx} {F : Fr} {L : List HL} {fn : Func} {x : ResultVar} {v : Value} (hr : fn.results = #[x]) (h : Holds C F L x v) {a : Act} {w : World} (ok : Ok C F L a w) : (results fn a.tmps).run C.P w = .ok v w := by
  have := h.run ok
  simp [results_eq, hr, this]
theorem results2 {C : Cx} {F : Fr} {L : List HL} {fn : Func} {x y : ResultVar} {v u : Value} (hr : fn.results = #[x, y]) (h : Holds C F L x v) (k : Holds C F L y u) {a : Act} {w : World} (ok : Ok C F L a w) :
    (results fn a.tmps).run C.P w = .ok (.tuple #[v, u]) w := by
  have h1 := h.run ok
  have h2 := k.run ok
  simp [results_eq, hr, h1, h2]
theorem results3 {C : Cx} {F : Fr} {L : List HL} {fn : Func} {x y z : ResultVar} {v u t : Value} (hr : fn.results = #[x, y, z]) (h : Holds C F L x v) (k : Holds C F L y u) (l : Holds C F L z t) {a : Act} {w : World} (ok : Ok C F L a w) :
    (results fn a.tmps).run C.P w = .ok (.tuple #[v, u, t]) w := by
  have h1 := h.run ok
  have h2 := k.run ok
  have h3 := l.run ok
  simp [results_eq, hr, h1, h2, h3]
theorem results0 {C : Cx} {F : Fr} {L : List HL} {fn : Func} (hr : fn.results = #[]) {a : Act} {w : World} (_ : Ok C F L a w) : (results fn a.tmps).run C.P w = .ok (.tuple #[]) w := by
  simp [results, hr]
/-- Leaving: by 'ret' or off the end. -/
theorem Ends.leave {P : Program} {n : Nat} {w0 : World} {S : Nat → Prop} {fn : Func} {R : Ending → World → Prop} {F : Fr} {L : List HL} {v : Value} {e : Exit} (he : e = .ret ∨ e = .normal)
    (hr : ∀ a w, Ok ⟨P, none, n, [], w0, S⟩ F L a w → (results fn a.tmps).run P w = .ok v w) (hR : ∀ w', Sym w0 S L w' → R (.returned v) w') : Ends ⟨P, none, n, [], w0, S⟩ e (bodyPost P fn R) F L := fun a w ok => by
  rcases he with rfl | rfl <;> exact ⟨ok.fr.defers, v, hr a w ok, hR w ok.sym⟩
theorem Ret.intro {w0 : World} {S : Nat → Prop} {γ : Type} {φ : γ → Prop} {V : γ → Value} {H : γ → List HL} {v : Value} {L : List HL} {w' : World} (g : γ) (hφ : φ g) (hv : v = V g) (hH : HSub (H g) L) (hs : Sym w0 S L w') : Ret w0 S φ V H (.returned v) w' :=
  ⟨g, hφ, by rw [hv], hs.sub hH⟩
end Go.V
/- The proof layer, part c: operations that only look, one rule each. -/
namespace Go.V
open Go
section still
variable {C : Cx} {F : Fr} {L : List HL} {o : Oper}
theorem Still.move {x : Operand} {v : Value} (ho : o.op = .move x) (hx : F.ev x = some v) : Still C o F L v :=
  ⟨fun c h => (by rw [ho] at h; cases h), fun a w ok => by simp only [execOp, ho, ok.fr.ev hx]; rfl⟩
theorem Still.assign {x : Operand} {v : Value} (ho : o.op = .assign x) (hx : F.ev x = some v) : Still C o F L v :=
  ⟨fun c h => (by rw [ho] at h; cases h), fun a w ok => by simp only [execOp, ho, ok.fr.ev hx]; rfl⟩
theorem Still.pickT {c x y : Operand} {v : Value} (ho : o.op = .pick c x y) (hc : F.ev c = some (.bool true)) (hx : F.ev x = some v) : Still C o F L v :=
  ⟨fun c h => (by rw [ho] at h; cases h), fun a w ok => by simp only [execOp, ho, ok.fr.ev hc, ok.fr.ev hx]; rfl⟩
theorem Still.pickF {c x y : Operand} {v : Value} (ho : o.op = .pick c x y) (hc : F.ev c = some (.bool false)) (hx : F.ev y = some v) : Still C o F L v :=
  ⟨fun c h => (by rw [ho] at h; cases h), fun a w ok => by simp only [execOp, ho, ok.fr.ev hc, ok.fr.ev hx]; rfl⟩
theorem Still.pick {c x y : Operand} {b : Bool} {v u : Value} (ho : o.op = .pick c x y) (hc : F.ev c = some (.bool b)) (hx : F.ev x = some v) (hy : F.ev y = some u) : Still C o F L (if b then v else u) :=
  ⟨fun c h => (by rw [ho] at h; cases h), fun a w ok => by simp only [execOp, ho, ok.fr.ev hc, ok.fr.ev hx, ok.fr.ev hy]; rfl⟩
/-- The cells from A on hold vs. -/
def Cells (w : World) (A : Addr) (vs : List Value) : Prop := ∀ j v, vs[j]? = some v → w.cell? (A.add j) = some v
theorem Cells.nil (w : World) (A : Addr) : Cells w A [] := fun j v h => by simp at h
theorem add_add (A : Addr) (m n : Nat) : (A.add m).add n = A.add (m + n) := by
  unfold Addr.add
  by_cases h : m = 0
  · subst h; simp
  · by_cases k : n = 0
    · subst k; simp [h]
    · simp [h, k, Nat.add_assoc]
@[simp] theorem add_block (A : Addr) (m : Nat) : (A.add m).block = A.block := by unfold Addr.add; split <;> rfl
theorem add_new (b k n : Nat) : (⟨b, k, none⟩ : Addr).add n = ⟨b, k + n, none⟩ := by unfold Addr.add; split <;> simp_all
theorem Cells.cons {w : World} {A : Addr} {v : Value} {vs : List Value} (h : w.cell? A = some v) (hs : Cells w (A.add 1) vs) : Cells w A (v :: vs) := fun j u hj => by
  cases j with
  | zero => simp at hj; subst hj; simpa [Addr.add] using h
  | succ j => have := hs j u (by simpa using hj); rwa [add_add, Nat.add_comm] at this
theorem load_cells {P : Program} {w : World} {t : TypeId} {A : Addr} {vs : List Value} {n : Nat} (ha : ∀ w, (isAgg t).run P w = .ok true w) (hz : ∀ w, (sizeOf t).run P w = .ok n w) (hn : vs.length = n) (hc : Cells w A vs) :
    (loadVar t A).run P w = .ok (.agg vs.toArray) w := by
  simp only [loadVar, Sem.run_bind, ha, Result.andThen_ok, if_true, hz, ← hn, run_loadCells_list w A vs hc]
  rfl
theorem load_one {P : Program} {w : World} {t : TypeId} {A : Addr} {v : Value} (ha : ∀ w, (isAgg t).run P w = .ok false w) (hc : w.cell? A = some v) : (loadVar t A).run P w = .ok v w := by
  simp [loadVar, ha, hc]
theorem Still.load {t : TypeId} {x : Operand} {A : Addr} {v : Value} (ho : o.op = .load t x) (hx : F.ev x = some (.pointer (some A))) (ha : ∀ w, (isAgg t).run C.P w = .ok false w)
    (hc : ∀ w, Sym C.w0 C.S L w → w.cell? A = some v) : Still C o F L v :=
  ⟨fun c h => (by rw [ho] at h; cases h), fun a w ok => by simp only [execOp, ho, ok.fr.ev hx]; simp [Instr.loadAt, Instr.sureAddr, load_one ha (hc w ok.sym)]⟩
theorem Still.loads {t : TypeId} {x : Operand} {A : Addr} {vs : List Value} {n : Nat} (ho : o.op = .load t x) (hx : F.ev x = some (.pointer (some A))) (ha : ∀ w, (isAgg t).run C.P w = .ok true w) (hz : ∀ w, (sizeOf t).run C.P w = .ok n w)
    (hn : vs.length = n) (hc : ∀ w, Sym C.w0 C.S L w → Cells w A vs) : Still C o F L (.agg vs.toArray) :=
  ⟨fun c h => (by rw [ho] at h; cases h), fun a w ok => by simp only [execOp, ho, ok.fr.ev hx]; simp [Instr.loadAt, Instr.sureAddr, load_cells ha hz hn (hc w ok.sym)]⟩
theorem Still.nilCheck {x : Operand} {A : Addr} (ho : o.op = .nilCheck x) (hx : F.ev x = some (.pointer (some A))) : Still C o F L (.pointer (some A)) :=
  ⟨fun c h => (by rw [ho] at h; cases h), fun a w ok => by simp only [execOp, ho, ok.fr.ev hx]; rfl⟩
theorem Still.nilCheckF {x : Operand} {fn : FuncId} {y z : Array Value} (ho : o.op = .nilCheck x) (hx : F.ev x = some (.func (.func fn) y z)) : Still C o F L (.func (.func fn) y z) :=
  ⟨fun c h => (by rw [ho] at h; cases h), fun a w ok => by simp only [execOp, ho, ok.fr.ev hx]; rfl⟩
theorem Still.fieldAddr {s : TypeId} {x : Operand} {k : Nat} {A : Addr} {fs : Array Field} {f : Field} {n : Nat} (ho : o.op = .fieldAddr s x k) (hx : F.ev x = some (.pointer (some A))) (hs : C.P.underlying s = some (.struct fs)) (hf : fs[k]? = some f)
    (hz : ∀ w, (sizeOf f.type).run C.P w = .ok (n + 1) w) : Still C o F L (.pointer (some (A.add f.offset))) :=
  ⟨fun c h => (by rw [ho] at h; cases h), fun a w ok => by
    simp only [execOp, ho, ok.fr.ev hx]
    simp [Instr.fieldAt, run_underlying hs, hf, Instr.sureAddr, fieldPlace, hz]⟩
theorem Still.indexSlice {t e : TypeId} {x ix : Operand} {A : Addr} {len cap : Nat} {k : IntKind} {i : Int} {n : Nat} (ho : o.op = .indexAddr t x ix) (hx : F.ev x = some (.slice (some A) len cap)) (hi : F.ev ix = some (.int k i))
    (ht : C.P.underlying t = some (.slice e)) (hz : ∀ w, (sizeOf e).run C.P w = .ok n w) (hb : 0 ≤ i ∧ i < len) : Still C o F L (.pointer (some (A.add (i.toNat * n)))) :=
  ⟨fun c h => (by rw [ho] at h; cases h), fun a w ok => by
    simp only [execOp, ho, ok.fr.ev hx, ok.fr.ev hi]
    simp [Instr.indexAt, asIntOf, run_underlying ht, hb, hz]⟩
theorem Still.indexArr {t e : TypeId} {x ix : Operand} {A : Addr} {len : Nat} {k : IntKind} {i : Int} {n : Nat} (ho : o.op = .indexAddr t x ix) (hx : F.ev x = some (.pointer (some A))) (hi : F.ev ix = some (.int k i))
    (ht : C.P.underlying t = some (.array len e)) (hz : ∀ w, (sizeOf e).run C.P w = .ok n w) (hb : 0 ≤ i ∧ i < len) : Still C o F L (.pointer (some (A.add (i.toNat * n)))) :=
  ⟨fun c h => (by rw [ho] at h; cases h), fun a w ok => by
    simp only [execOp, ho, ok.fr.ev hx, ok.fr.ev hi]
    simp [Instr.indexAt, asIntOf, run_underlying ht, Instr.sureAddr, hb, hz]⟩
/-- An element of an array that is a value. -/
theorem Still.index {t e : TypeId} {x ix : Operand} {cs : Array Value} {len : Nat} {k : IntKind} {i : Int} {v : Value} (ho : o.op = .index t x ix) (hx : F.ev x = some (.agg cs)) (hi : F.ev ix = some (.int k i))
    (ht : C.P.underlying t = some (.array len e)) (hz : ∀ w, (sizeOf e).run C.P w = .ok 1 w) (ha : ∀ w, (isAgg e).run C.P w = .ok false w) (hb : 0 ≤ i ∧ i < len) (hv : cs[i.toNat]? = some v) : Still C o F L v :=
  ⟨fun c h => (by rw [ho] at h; cases h), fun a w ok => by
    simp only [execOp, ho, ok.fr.ev hx, ok.fr.ev hi]
    simp [Instr.index, asIntOf, run_underlying ht, hb, hz, part, ha, hv]⟩
/-- A byte of a string. -/
theorem Still.indexStr {t : TypeId} {x ix : Operand} {s : ByteArray} {k : IntKind} {i : Int} {b : UInt8} (ho : o.op = .index t x ix) (hx : F.ev x = some (.string s)) (hi : F.ev ix = some (.int k i))
    (ht : C.P.underlying t = some .string) (hb : 0 ≤ i) (hv : s[i.toNat]? = some b) : Still C o F L (.int .u8 b.toNat) :=
  ⟨fun c h => (by rw [ho] at h; cases h), fun a w ok => by
    simp only [execOp, ho, ok.fr.ev hx, ok.fr.ev hi]
    simp [Instr.index, asIntOf, run_underlying ht, hb, hv]⟩
theorem Still.field1 {s : TypeId} {x : Operand} {k : Nat} {cs : Array Value} {fs : Array Field} {f : Field} {v : Value} (ho : o.op = .field s x k) (hx : F.ev x = some (.agg cs)) (hs : C.P.underlying s = some (.struct fs)) (hf : fs[k]? = some f)
    (ha : ∀ w, (isAgg f.type).run C.P w = .ok false w) (hv : cs[f.offset]? = some v) : Still C o F L v :=
  ⟨fun c h => (by rw [ho] at h; cases h), fun a w ok => by
    simp only [execOp, ho, ok.fr.ev hx]
    simp [Instr.field, run_underlying hs, hf, asAgg, part, ha, hv]⟩
theorem Still.fieldN {s : TypeId} {x : Operand} {k n : Nat} {cs : Array Value} {fs : Array Field} {f : Field} (ho : o.op = .field s x k) (hx : F.ev x = some (.agg cs)) (hs : C.P.underlying s = some (.struct fs)) (hf : fs[k]? = some f)
    (ha : ∀ w, (isAgg f.type).run C.P w = .ok true w) (hz : ∀ w, (sizeOf f.type).run C.P w = .ok n w) : Still C o F L (.agg (cs.extract f.offset (f.offset + n))) :=
  ⟨fun c h => (by rw [ho] at h; cases h), fun a w ok => by
    simp only [execOp, ho, ok.fr.ev hx]
    simp [Instr.field, run_underlying hs, hf, asAgg, part, ha, hz]⟩
theorem Still.extract {x : Operand} {i : Nat} {vs : Array Value} {v : Value} (ho : o.op = .extract x i) (hx : F.ev x = some (.tuple vs)) (hv : vs[i]? = some v) : Still C o F L v :=
  ⟨fun c h => (by rw [ho] at h; cases h), fun a w ok => by
    simp only [execOp, ho, ok.fr.ev hx]
    simp [Instr.extract, hv]⟩
theorem Still.not {t : TypeId} {x : Operand} {b : Bool} (ho : o.op = .unOp .not t x) (hx : F.ev x = some (.bool b)) : Still C o F L (.bool (!b)) :=
  ⟨fun c h => (by rw [ho] at h; cases h), fun a w ok => by
    simp only [execOp, ho, ok.fr.ev hx]
    simp [Op.unary]⟩
/-- The range of a kind of integers. -/
def Fits (k : IntKind) (n : Int) : Prop := k.min ≤ n ∧ n ≤ k.max
theorem Fits.wrap {k : IntKind} {n : Int} (h : Fits k n) : k.wrap n = n := by
  unfold Fits at h
  obtain ⟨h1, h2⟩ := h
  cases k <;> simp only [IntKind.wrap, IntKind.min, IntKind.max, IntKind.bits, IntKind.signed] at h1 h2 ⊢ <;> simp at h1 h2 ⊢ <;> (try split) <;> omega
theorem fits64 {n : Int} (h1 : -9223372036854775808 ≤ n) (h2 : n ≤ 9223372036854775807) : Fits .i64 n := ⟨by simpa [IntKind.min, IntKind.signed, IntKind.bits] using h1, by simpa [IntKind.max, IntKind.signed, IntKind.bits] using h2⟩
theorem fits8 {n : Int} (h1 : 0 ≤ n) (h2 : n ≤ 255) : Fits .u8 n := ⟨by simpa [IntKind.min, IntKind.signed, IntKind.bits] using h1, by simpa [IntKind.max, IntKind.signed, IntKind.bits] using h2⟩
theorem fits32 {n : Int} (h1 : -2147483648 ≤ n) (h2 : n ≤ 2147483647) : Fits .i32 n := ⟨by simpa [IntKind.min, IntKind.signed, IntKind.bits] using h1, by simpa [IntKind.max, IntKind.signed, IntKind.bits] using h2⟩
theorem fitsu64 {n : Int} (h1 : 0 ≤ n) (h2 : n ≤ 18446744073709551615) : Fits .u64 n := ⟨by simpa [IntKind.min, IntKind.signed, IntKind.bits] using h1, by simpa [IntKind.max, IntKind.signed, IntKind.bits] using h2⟩
theorem fitsu32 {n : Int} (h1 : 0 ≤ n) (h2 : n ≤ 4294967295) : Fits .u32 n := ⟨by simpa [IntKind.min, IntKind.signed, IntKind.bits] using h1, by simpa [IntKind.max, IntKind.signed, IntKind.bits] using h2⟩
theorem Still.neg {t : TypeId} {x : Operand} {k : IntKind} {i : Int} (ho : o.op = .unOp .neg t x) (hx : F.ev x = some (.int k i)) (hf : Fits k (-i)) : Still C o F L (.int k (-i)) :=
  ⟨fun c h => (by rw [ho] at h; cases h), fun a w ok => by
    simp only [execOp, ho, ok.fr.ev hx]
    simp [Op.unary, Op.intArith, hf.wrap]⟩
section bin
variable {xt yt : TypeId} {x y : Operand} {k : IntKind} {i j : Int}
theorem Still.add (ho : o.op = .binOp .add xt x y yt) (hx : F.ev x = some (.int k i)) (hy : F.ev y = some (.int k j)) (hf : Fits k (i + j)) : Still C o F L (.int k (i + j)) :=
  ⟨fun c h => (by rw [ho] at h; cases h), fun a w ok => by simp only [execOp, ho, ok.fr.ev hx, ok.fr.ev hy]; simp [eqGuard_add, binOp_add, Op.intArith, hf.wrap]⟩
theorem Still.sub (ho : o.op = .binOp .sub xt x y yt) (hx : F.ev x = some (.int k i)) (hy : F.ev y = some (.int k j)) (hf : Fits k (i - j)) : Still C o F L (.int k (i - j)) :=
  ⟨fun c h => (by rw [ho] at h; cases h), fun a w ok => by simp only [execOp, ho, ok.fr.ev hx, ok.fr.ev hy]; simp [eqGuard_sub, binOp_sub, Op.intArith, hf.wrap]⟩
theorem Still.mul (ho : o.op = .binOp .mul xt x y yt) (hx : F.ev x = some (.int k i)) (hy : F.ev y = some (.int k j)) (hf : Fits k (i * j)) : Still C o F L (.int k (i * j)) :=
  ⟨fun c h => (by rw [ho] at h; cases h), fun a w ok => by simp only [execOp, ho, ok.fr.ev hx, ok.fr.ev hy]; simp [eqGuard_mul, binOp_mul, Op.intArith, hf.wrap]⟩
theorem Still.addW (ho : o.op = .binOp .add xt x y yt) (hx : F.ev x = some (.int k i)) (hy : F.ev y = some (.int k j)) : Still C o F L (.int k (k.wrap (i + j))) :=
  ⟨fun c h => (by rw [ho] at h; cases h), fun a w ok => by simp only [execOp, ho, ok.fr.ev hx, ok.fr.ev hy]; simp [eqGuard_add, binOp_add, Op.intArith]⟩
theorem Still.subW (ho : o.op = .binOp .sub xt x y yt) (hx : F.ev x = some (.int k i)) (hy : F.ev y = some (.int k j)) : Still C o F L (.int k (k.wrap (i - j))) :=
  ⟨fun c h => (by rw [ho] at h; cases h), fun a w ok => by simp only [execOp, ho, ok.fr.ev hx, ok.fr.ev hy]; simp [eqGuard_sub, binOp_sub, Op.intArith]⟩
theorem Still.mulW (ho : o.op = .binOp .mul xt x y yt) (hx : F.ev x = some (.int k i)) (hy : F.ev y = some (.int k j)) : Still C o F L (.int k (k.wrap (i * j))) :=
  ⟨fun c h => (by rw [ho] at h; cases h), fun a w ok => by simp only [execOp, ho, ok.fr.ev hx, ok.fr.ev hy]; simp [eqGuard_mul, binOp_mul, Op.intArith]⟩
/-- Quotient and remainder as Go has them. -/
theorem Still.quo (ho : o.op = .binOp .quo xt x y yt) (hx : F.ev x = some (.int k i)) (hy : F.ev y = some (.int k j)) (hj : j ≠ 0) (hf : Fits k (i.tdiv j)) : Still C o F L (.int k (i.tdiv j)) :=
  ⟨fun c h => (by rw [ho] at h; cases h), fun a w ok => by simp only [execOp, ho, ok.fr.ev hx, ok.fr.ev hy]; simp [eqGuard_quo, binOp_quo, Op.intDiv, hj, hf.wrap]⟩
theorem Still.rem (ho : o.op = .binOp .rem xt x y yt) (hx : F.ev x = some (.int k i)) (hy : F.ev y = some (.int k j)) (hj : j ≠ 0) : Still C o F L (.int k (i.tmod j)) :=
  ⟨fun c h => (by rw [ho] at h; cases h), fun a w ok => by simp only [execOp, ho, ok.fr.ev hx, ok.fr.ev hy]; simp [eqGuard_rem, binOp_rem, Op.intDiv, hj]⟩
theorem Still.quoP (ho : o.op = .binOp .quo xt x y yt) (hx : F.ev x = some (.int k i)) (hy : F.ev y = some (.int k j)) (hi : 0 ≤ i) (hj : 0 < j) (hf : Fits k (i / j)) : Still C o F L (.int k (i / j)) := by
  have e : i.tdiv j = i / j := Int.tdiv_eq_ediv_of_nonneg hi
  rw [← e]; exact Still.quo ho hx hy (by omega) (by rw [e]; exact hf)
theorem Still.remP (ho : o.op = .binOp .rem xt x y yt) (hx : F.ev x = some (.int k i)) (hy : F.ev y = some (.int k j)) (hi : 0 ≤ i) (hj : 0 < j) : Still C o F L (.int k (i % j)) := by
  have e : i.tmod j = i % j := Int.tmod_eq_emod_of_nonneg hi
  rw [← e]; exact Still.rem ho hx hy (by omega)
theorem Still.lss (ho : o.op = .binOp .lss xt x y yt) (hx : F.ev x = some (.int k i)) (hy : F.ev y = some (.int k j)) : Still C o F L (.bool (decide (i < j))) :=
  ⟨fun c h => (by rw [ho] at h; cases h), fun a w ok => by simp only [execOp, ho, ok.fr.ev hx, ok.fr.ev hy]; simp [eqGuard_lss, binOp_lss]⟩
theorem Still.leq (ho : o.op = .binOp .leq xt x y yt) (hx : F.ev x = some (.int k i)) (hy : F.ev y = some (.int k j)) : Still C o F L (.bool (decide (i ≤ j))) :=
  ⟨fun c h => (by rw [ho] at h; cases h), fun a w ok => by simp only [execOp, ho, ok.fr.ev hx, ok.fr.ev hy]; simp [eqGuard_leq, binOp_leq]⟩
theorem Still.gtr (ho : o.op = .binOp .gtr xt x y yt) (hx : F.ev x = some (.int k i)) (hy : F.ev y = some (.int k j)) : Still C o F L (.bool (decide (j < i))) :=
  ⟨fun c h => (by rw [ho] at h; cases h), fun a w ok => by simp only [execOp, ho, ok.fr.ev hx, ok.fr.ev hy]; simp [eqGuard_gtr, binOp_gtr]⟩
theorem Still.geq (ho : o.op = .binOp .geq xt x y yt) (hx : F.ev x = some (.int k i)) (hy : F.ev y = some (.int k j)) : Still C o F L (.bool (decide (j ≤ i))) :=
  ⟨fun c h => (by rw [ho] at h; cases h), fun a w ok => by simp only [execOp, ho, ok.fr.ev hx, ok.fr.ev hy]; simp [eqGuard_geq, binOp_geq]⟩
theorem Still.eql (ho : o.op = .binOp .eql xt x y yt) (hx : F.ev x = some (.int k i)) (hy : F.ev y = some (.int k j)) : Still C o F L (.bool (decide (i = j))) :=
  ⟨fun c h => (by rw [ho] at h; cases h), fun a w ok => by simp only [execOp, ho, ok.fr.ev hx, ok.fr.ev hy]; simp [eqGuard_at_int, binOp_eql]; exact Bool.beq_eq_decide_eq i j⟩
theorem Still.neq (ho : o.op = .binOp .neq xt x y yt) (hx : F.ev x = some (.int k i)) (hy : F.ev y = some (.int k j)) : Still C o F L (.bool (decide (i ≠ j))) :=
  ⟨fun c h => (by rw [ho] at h; cases h), fun a w ok => by simp only [execOp, ho, ok.fr.ev hx, ok.fr.ev hy]; simp [eqGuard_at_int, binOp_neq, bne, Bool.beq_eq_decide_eq i j]⟩
theorem Still.eqlB {b c : Bool} (ho : o.op = .binOp .eql xt x y yt) (hx : F.ev x = some (.bool b)) (hy : F.ev y = some (.bool c)) (ht : C.P.underlying xt = some .bool) : Still C o F L (.bool (b == c)) :=
  ⟨fun c h => (by rw [ho] at h; cases h), fun a w ok => by simp only [execOp, ho, ok.fr.ev hx, ok.fr.ev hy]; simp [eqGuard_at_bool, binOp, Op.equal, Op.maxDepth, run_equalIn_bool' w 9999 xt b c ht]⟩
theorem Still.neqB {b c : Bool} (ho : o.op = .binOp .neq xt x y yt) (hx : F.ev x = some (.bool b)) (hy : F.ev y = some (.bool c)) (ht : C.P.underlying xt = some .bool) : Still C o F L (.bool (!(b == c))) :=
  ⟨fun c h => (by rw [ho] at h; cases h), fun a w ok => by simp only [execOp, ho, ok.fr.ev hx, ok.fr.ev hy]; simp [eqGuard_at_bool, binOp, Op.equal, Op.maxDepth, run_equalIn_bool' w 9999 xt b c ht]⟩
end bin
section builtins
variable {ts : Array TypeId} {x : Operand}
theorem Still.lenSlice {t : TypeId} {p : Option Addr} {n c : Nat} (ho : o.op = .call { callee := .builtin .len, args := #[x], argTypes := #[t] }) (hx : F.ev x = some (.slice p n c)) (ht : C.P.underlying t = some (.slice (C.P.elem t))) : Still C o F L (.int .i64 n) :=
  ⟨fun c h => (by rw [ho] at h; cases h), fun a w ok => by
    obtain ⟨d, op, ty, ps, af, g⟩ := o; subst ho
    rw [BigFrame.execOp_builtin, BigFrame.builtin_len]
    simp [ok.fr.ev hx, run_len_slice w _ _ _ _ _ ht, goInt]⟩
theorem Still.lenStr {t : TypeId} {s : ByteArray} (ho : o.op = .call { callee := .builtin .len, args := #[x], argTypes := #[t] }) (hx : F.ev x = some (.string s)) (ht : C.P.underlying t = some .string) : Still C o F L (.int .i64 s.size) :=
  ⟨fun c h => (by rw [ho] at h; cases h), fun a w ok => by
    obtain ⟨d, op, ty, ps, af, g⟩ := o; subst ho
    rw [BigFrame.execOp_builtin, BigFrame.builtin_len]
    simp [ok.fr.ev hx, Builtin.len_, run_underlying ht, goInt]⟩
end builtins
/-- A value put together: the run is a closed fact. -/
theorem Still.build {t : TypeId} {ps : Array (Nat × Operand)} {vs : Array (Nat × Value)} {v : Value} (ho : o.op = .build t ps) (hv : (ps.toList.map fun p => (p.1, F.ev p.2)) = vs.toList.map fun p => (p.1, some p.2)) (hr : ∀ w, (Instr.build t vs).run C.P w = .ok v w) : Still C o F L v :=
  ⟨fun c h => (by rw [ho] at h; cases h), fun a w ok => by
    have e : (ps.map fun (i, x) => (i, a.eval x)) = vs := by
      apply Array.ext'
      rw [Array.toList_map]
      revert hv
      generalize ps.toList = l
      generalize vs.toList = m
      induction l generalizing m with
      | nil => intro h; cases m <;> simp at h ⊢
      | cons p l ih =>
        intro h
        cases m with
        | nil => simp at h
        | cons q m =>
          simp only [List.map_cons, List.cons.injEq, Prod.mk.injEq] at h ⊢
          obtain ⟨⟨h1, h2⟩, h3⟩ := h
          exact ⟨by rw [h1, ok.fr.ev h2], ih m h3⟩
    simp only [execOp, ho, e]
    simp [hr]⟩
theorem Still.makeFunc {fn : FuncId} {cs : Array Operand} {vs : Array Value} (ho : o.op = .makeFunc (.func fn) #[] cs) (hv : cs.toList.map F.ev = vs.toList.map some) : Still C o F L (.func (.func fn) #[] vs) :=
  ⟨fun c h => (by rw [ho] at h; cases h), fun a w ok => by
    have e : cs.map a.eval = vs := by
      apply Array.ext'
      rw [Array.toList_map]
      revert hv
      generalize cs.toList = l
      generalize vs.toList = m
      induction l generalizing m with
      | nil => intro h; cases m <;> simp at h ⊢
      | cons p l ih =>
        intro h
        cases m with
        | nil => simp at h
        | cons q m =>
          simp only [List.map_cons, List.cons.injEq] at h ⊢
          exact ⟨ok.fr.ev h.1, ih m h.2⟩
    simp only [execOp, ho, e]
    simp [Instr.makeFunc]⟩
/-- Any other operation: its run is given. -/
theorem Still.of_run {v : Value} (hd : ∀ c, o.op ≠ .defer c) (hr : ∀ a w, Ok C F L a w → (execOp a.eval o).run C.P w = .ok (.value v) w) : Still C o F L v := ⟨hd, hr⟩
end still
end Go.V
/- The proof layer, part d: operations that make or write memory; calls. -/
namespace Go.V
open Go
section mem
variable {C : Cx} {F : Fr} {L : List HL} {o : Oper}
/-! ### New blocks -/
theorem wpIn_value {a : Act} {w w' : World} {next : Act → World → Prop} {Q : Exit → Act → World → Prop} {v : Value} (hd : ∀ c, o.op ≠ .defer c) (hr : (execOp a.eval o).run C.P w = .ok (.value v) w') (h : next (a.put o.dst v) w') : o.wpIn (FW C.r) 0 C.P a w next Q := by
  refine ⟨fun _ _ => trivial, ?_⟩
  rw [Oper.semAt_eq _ _ _ hd, hr]
  exact h
theorem wpIn_skip' {a : Act} {w w' : World} {next : Act → World → Prop} {Q : Exit → Act → World → Prop} (hd : ∀ c, o.op ≠ .defer c) (hr : (execOp a.eval o).run C.P w = .ok .skip w') (h : next (a.put o.dst undef) w') : o.wpIn (FW C.r) 0 C.P a w next Q := by
  refine ⟨fun _ _ => trivial, ?_⟩
  rw [Oper.semAt_eq _ _ _ hd, hr]
  exact h
/-- A new block: the result is told by its number. -/
theorem grows_new {ob : Obj} {V : Nat → Value} (hd : ∀ c, o.op ≠ .defer c) (hr : ∀ a w, Ok C F L a w → (execOp a.eval o).run C.P w = .ok (.value (V w.heap.size)) (w.alloc ob)) : Grows C o F L (fun _ : Nat => True) V (fun b => [HL.obj b ob]) :=
  fun a w ok _ _ h => wpIn_value hd (hr a w ok) (h w.heap.size _ trivial (Old.alloc Nil w ob) (ok.sym.alloc ob))
theorem Grows.alloc {t : TypeId} {z : Value} (ho : o.op = .alloc t) (hz : ∀ w, (zeroValue t).run C.P w = .ok z w) : Grows C o F L (fun _ : Nat => True) (fun b => .pointer (some ⟨b, 0, none⟩)) (fun b => [HL.obj b (.cells z.cells t (0, 0))]) :=
  grows_new (fun c h => (by rw [ho] at h; cases h)) fun a w ok => by simp [execOp, ho, Instr.alloc, hz, newVar, newRow]
theorem Grows.box {t : TypeId} {x : Operand} {v : Value} (ho : o.op = .box t x) (hx : F.ev x = some v) : Grows C o F L (fun _ : Nat => True) (fun b => .pointer (some ⟨b, 0, none⟩)) (fun b => [HL.obj b (.cells v.cells t (0, 0))]) :=
  grows_new (fun c h => (by rw [ho] at h; cases h)) fun a w ok => by simp [execOp, ho, ok.fr.ev hx, Instr.box, newVar, newRow]
theorem Grows.makeMap {t : TypeId} (ho : o.op = .makeMap t none) : Grows C o F L (fun _ : Nat => True) (fun b => .map (some b)) (fun b => [HL.obj b (.map #[] 0)]) :=
  grows_new (fun c h => (by rw [ho] at h; cases h)) fun a w ok => by simp [execOp, ho, Instr.makeMap]
theorem parts_eq {a : Act} {w : World} (ok : Ok C F L a w) {ps : Array (Nat × Operand)} {vs : Array (Nat × Value)} (hv : (ps.toList.map fun p => (p.1, F.ev p.2)) = vs.toList.map fun p => (p.1, some p.2)) : (ps.map fun (i, x) => (i, a.eval x)) = vs := by
  apply Array.ext'
  rw [Array.toList_map]
  revert hv
  generalize ps.toList = l
  generalize vs.toList = m
  induction l generalizing m with
  | nil => intro h; cases m <;> simp at h ⊢
  | cons p l ih =>
    intro h
    cases m with
    | nil => simp at h
    | cons q m =>
      simp only [List.map_cons, List.cons.injEq, Prod.mk.injEq] at h ⊢
      obtain ⟨⟨h1, h2⟩, h3⟩ := h
      exact ⟨by rw [h1, ok.fr.ev h2], ih m h3⟩
/-- '[]T{..}' written out: the cells are a closed fact. -/
theorem Grows.buildSlice {t e : TypeId} {n size : Nat} {ps : Array (Nat × Operand)} {vs : Array (Nat × Value)} {z : Value} {cells : Array Value} (ho : o.op = .buildSlice t n ps) (hv : (ps.toList.map fun p => (p.1, F.ev p.2)) = vs.toList.map fun p => (p.1, some p.2))
    (ht : C.P.underlying t = some (.slice e)) (hz : ∀ w, (sizeOf e).run C.P w = .ok size w) (hzv : ∀ w, (zeroValue e).run C.P w = .ok z w) (hsmall : n * size ≤ 16777216)
    (hf : Instr.fill (fun i => some (i * size, size)) ((Array.range (n * size)).map ((if n * size = 0 then #[] else z.cells)[· % (if n * size = 0 then #[] else z.cells).size]!)) vs.toList = some cells) :
    Grows C o F L (fun _ : Nat => True) (fun b => .slice (some ⟨b, 0, none⟩) n n) (fun b => [HL.obj b (.cells cells e (0, 0))]) :=
  grows_new (fun c h => (by rw [ho] at h; cases h)) fun a w ok => by
    have hs : ¬ (2 ^ 24 < n * size) := by omega
    simp only [execOp, ho, parts_eq ok hv]
    simp only [Instr.buildSlice, Sem.run_bind, run_underlying ht, Result.andThen_ok, hz]
    rw [if_neg hs]
    by_cases h0 : n * size = 0
    · simp only [h0, if_true] at hf
      simp only [h0, if_true, Sem.run_bind, Sem.run_pure, Result.andThen_ok, hf]
      simp [newRow]
    · simp only [h0, if_false] at hf
      simp only [h0, if_false, Sem.run_bind, Sem.run_pure, Result.andThen_ok, hzv, hf]
      simp [newRow]
theorem fill_one {n : Nat} {v : Value} {zs : Array Value} (hn : v.cells.size = n) (hz : zs.size = n) : Instr.fill (fun i => some (i * n, n)) zs [(0, v)] = some v.cells := by
  have key : ∀ (l : List Value) (k : Nat) (cs : Array Value), k + l.length = cs.size → ((l.zipIdx k).foldl (fun cs (c, j) => cs.setIfInBounds (0 + j) c) cs) = (cs.toList.take k ++ l).toArray := by
    intro l
    induction l with
    | nil => intro k cs h; simp only [List.length_nil, Nat.add_zero] at h; subst h; simp [List.take_of_length_le]
    | cons c l ih =>
      intro k cs h
      simp only [List.zipIdx_cons, List.foldl_cons]
      rw [ih (k + 1) _ (by simp only [List.length_cons] at h; rw [Array.size_setIfInBounds]; omega)]
      simp only [List.length_cons] at h
      have hk : k < cs.size := by omega
      simp only [Nat.zero_add, Array.toList_setIfInBounds]
      rw [List.take_add_one]
      simp [List.take_set, hk]
      rw [List.set_eq_of_length_le (by simp; omega)]
  have h0 : v.cells.zipIdx.foldl (fun cs (c, j) => cs.setIfInBounds (0 * n + j) c) zs = v.cells := by
    rw [← Array.foldl_toList, Array.toList_zipIdx]
    have := key v.cells.toList 0 zs (by simp [hn, hz])
    simpa using this
  simp only [Instr.fill]
  have hc : ¬ (v.cells.size ≠ n || decide (0 * n + v.cells.size > zs.size)) = true := by simp [hn, hz]
  rw [if_neg hc]
  simpa using h0
/-- A slice of one element: the source of 'append(l, x)'. -/
theorem Grows.slice1 {t e : TypeId} {size : Nat} {x : Operand} {v z : Value} (ho : o.op = .buildSlice t 1 #[(0, x)]) (hx : F.ev x = some v) (ht : C.P.underlying t = some (.slice e)) (hz : ∀ w, (sizeOf e).run C.P w = .ok size w)
    (hv : v.cells.size = size) (hzv : ∀ w, (zeroValue e).run C.P w = .ok z w) (hsmall : size ≤ 16777216) :
    Grows C o F L (fun _ : Nat => True) (fun b => .slice (some ⟨b, 0, none⟩) 1 1) (fun b => [HL.obj b (.cells v.cells e (0, 0))]) := by
  by_cases h0 : size = 0
  · subst h0
    exact Grows.buildSlice (vs := #[(0, v)]) ho (by simp [hx]) ht hz hzv (by omega) (fill_one (n := 0) (zs := (Array.range (1 * 0)).map _) hv (by simp))
  · exact Grows.buildSlice (vs := #[(0, v)]) ho (by simp [hx]) ht hz hzv (by omega) (fill_one (zs := (Array.range (1 * size)).map _) hv (by simp))
/-- The zero cells of n elements. -/
def zeros (n : Nat) (zs : List Value) : Array Value := ((List.replicate n zs).flatten).toArray
theorem madeCells_eq (z : Array Value) (n : Nat) : madeCells z (n * z.size) = zeros n z.toList := by
  apply Array.ext'
  simp only [zeros]
  apply List.ext_getElem?
  intro j
  by_cases hz : z.size = 0
  · have hz' : z.toList = [] := by simpa using hz
    rw [hz']
    simp [madeCells, hz]
  · by_cases hj : j < n * z.size
    · have hm : j % z.size < z.size := Nat.mod_lt _ (by omega)
      have e1 : (madeCells z (n * z.size)).toList[j]? = z[j % z.size]? := by
        simp [madeCells, hj, hm]
      rw [e1]
      have key : ∀ (n j : Nat), j < n * z.size → ((List.replicate n z.toList).flatten)[j]? = z[j % z.size]? := by
        intro n
        induction n with
        | zero => intro j hj; simp at hj
        | succ n ih =>
          intro j hj
          rw [List.replicate_succ, List.flatten_cons]
          by_cases h1 : j < z.size
          · rw [List.getElem?_append_left (by simpa using h1), Nat.mod_eq_of_lt h1]; simp
          · rw [List.getElem?_append_right (by simp; omega)]
            have : (j - z.size) % z.size = j % z.size := (Nat.mod_eq_sub_mod (by omega)).symm
            rw [Nat.succ_mul] at hj
            simp only [Array.length_toList]
            rw [ih (j - z.size) (by omega), this]
      exact (key n j hj).symm
    · rw [List.getElem?_eq_none (by simp [madeCells]; omega), List.getElem?_eq_none]
      simp [List.length_flatten]; omega
theorem Grows.makeSlice {t e : TypeId} {x y : Operand} {n size bytes : Nat} {k k' : IntKind} {z : Value} (ho : o.op = .makeSlice t x y) (hx : F.ev x = some (.int k (n : Int))) (hy : F.ev y = some (.int k' (n : Int)))
    (ht : C.P.underlying t = some (.slice e)) (hi : (C.P.info? e).map (fun i => (i.zero, i.size, i.bytes)) = some (some z, size, bytes)) (hzs : z.cells.size = size) (hb : bytes * n ≤ 281474976710656) (hn : n ≤ 9223372036854775807) :
    Grows C o F L (fun _ : Nat => True) (fun b => .slice (some ⟨b, 0, none⟩) n n) (fun b => [HL.obj b (.cells (zeros n z.cells.toList) e (0, 0))]) :=
  grows_new (fun c h => (by rw [ho] at h; cases h)) fun a w ok => by
    obtain ⟨i, hi0, hi1, hi2, hi3⟩ := info_parts hi
    have hb' : (i.bytes : Int) * (n : Int) ≤ 281474976710656 := by
      have h : ((i.bytes * n : Nat) : Int) ≤ 281474976710656 := by rw [hi3]; omega
      rwa [Int.natCast_mul] at h
    have hr := run_make (P := C.P) w t e i z ht hi0 hi1 k k' n n (by omega) (Int.le_refl _) hb' (by omega)
    simp only [Int.toNat_natCast, hi2, ← hzs, madeCells_eq] at hr
    simp only [execOp, ho, ok.fr.ev hx, ok.fr.ev hy]
    simp [hr]
/-! ### Stores -/
def putAll (cs : Array Value) (k : Nat) : List Value → Array Value
  | [] => cs
  | v :: r => putAll (cs.setIfInBounds k v) (k + 1) r
theorem size_putAll : ∀ (vs : List Value) (cs : Array Value) (k : Nat), (putAll cs k vs).size = cs.size
  | [], _, _ => rfl
  | v :: r, cs, k => by rw [putAll, size_putAll r]; simp
theorem frozen_free {w : World} {b k : Nat} {cs : Array Value} {t : TypeId} (h : w.heap[b]? = some (.cells cs t (0, 0))) : w.frozen? ⟨b, k, none⟩ = false := by simp [World.frozen?, h]
theorem run_storeCells_own {P : Program} {b : Nat} {t : TypeId} : ∀ (vs : List Value) (i : Nat) (k : Nat) (cs : Array Value) (w : World), w.heap[b]? = some (.cells cs t (0, 0)) → k + i + vs.length ≤ cs.size → (∀ v ∈ vs, v.oneCell' = true) →
    ∃ w', (storeCells ⟨b, k, none⟩ vs i).run P w = .ok () w' ∧ w'.heap[b]? = some (.cells (putAll cs (k + i) vs) t (0, 0)) ∧ Old (fun c => c = b) w w' ∧ w'.heap.size = w.heap.size
  | [], i, k, cs, w, h, _, _ => ⟨w, rfl, h, Old.refl _ w, rfl⟩
  | v :: r, i, k, cs, w, h, hl, h1 => by
    simp only [List.length_cons] at hl
    have hk : k + i < cs.size := by omega
    have hcell : w.cell? ⟨b, k + i, none⟩ = some cs[k + i] := cell_of_obj h (by simp [hk])
    have hs := heap_setCell (k := k + i) h v
    obtain ⟨w', hr, hh, ho, hz⟩ := run_storeCells_own r (i + 1) k (cs.setIfInBounds (k + i) v) _ hs (by simp; omega) (fun u hu => h1 u (by simp [hu]))
    refine ⟨w', ?_, hh, (Old.setCell (S := fun c => c = b) w ⟨b, k + i, none⟩ v rfl).trans ho, by simpa using hz⟩
    simp only [storeCells, Sem.run_bind, add_new, run_store P w _ v .plain (h1 v (by simp)), hcell, frozen_free h, Bool.false_eq_true, if_false, Result.andThen_ok]
    exact hr
theorem Does.store {t : TypeId} {x y : Operand} {i b k n : Nat} {cs : Array Value} {e : TypeId} {v : Value} (ho : o.op = .store t x y) (hx : F.ev x = some (.pointer (some ⟨b, k, none⟩))) (hy : F.ev y = some v)
    (hi : L[i]? = some (HL.obj b (.cells cs e (0, 0)))) (hz : ∀ w, (sizeOf t).run C.P w = .ok n w) (hn : v.cells.size = n) (hk : Nat.ble (k + n) cs.size = true) (h1 : v.cells.toList.all Value.oneCell' = true) :
    Does C o F L (fun _ : Unit => True) (fun _ => undef) (fun _ => L.set i (HL.obj b (.cells (putAll cs k v.cells.toList) e (0, 0)))) := fun a w ok next Q h => by
  obtain ⟨w', hr, hh, hold, hsz⟩ := run_storeCells_own (P := C.P) v.cells.toList 0 k cs w (ok.sym.at hi) (by have := Nat.le_of_ble_eq_true hk; simp [hn]; omega) (List.all_eq_true.1 h1)
  simp only [Nat.add_zero] at hh
  refine wpIn_skip' (fun c h => (by rw [ho] at h; cases h)) (w' := w') ?_ (h () w' trivial ?_)
  · simp only [execOp, ho, ok.fr.ev hx, ok.fr.ev hy]
    simp [Instr.storeAt, Instr.sureAddr, storeVar, hn, hz, hr]
  · exact ok.sym.turn hi (fun c hc => ⟨.inl hc, by have e : c = b := hc; subst e; rw [hsz]; exact ok.sym.lt hi⟩) hold hh
/-- One cell. -/
theorem Does.store1 {t : TypeId} {x y : Operand} {i b k : Nat} {cs : Array Value} {e : TypeId} {v : Value} (ho : o.op = .store t x y) (hx : F.ev x = some (.pointer (some ⟨b, k, none⟩))) (hy : F.ev y = some v)
    (hi : L[i]? = some (HL.obj b (.cells cs e (0, 0)))) (hz : ∀ w, (sizeOf t).run C.P w = .ok 1 w) (h1 : v.oneCell' = true) (hk : Nat.blt k cs.size = true) :
    Does C o F L (fun _ : Unit => True) (fun _ => undef) (fun _ => L.set i (HL.obj b (.cells (cs.setIfInBounds k v) e (0, 0)))) := by
  have hc : v.cells = #[v] := by cases v <;> first | rfl | cases h1
  have := Does.store (n := 1) ho hx hy hi hz (by simp [hc]) (Nat.ble_eq_true_of_le (by have := Nat.le_of_ble_eq_true hk; omega)) (by simp [hc, h1])
  simpa [hc, putAll] using this
/-! ### Slices that are appended to -/
/-- The slice value v has n elements of type e, k cells each, and owns the cells xs (there may be room behind). -/
def HL.own (e : TypeId) (k : Nat) (v : Value) (n : Nat) (xs : List Value) : HL :=
  ⟨fun b => v.ownBlock = some b, fun w => w.ownsRow 0 e k v n xs, fun w w' h hh => by
    refine ⟨hh.1, ?_⟩
    rcases hh.2 with h2 | ⟨g, cap, cur, hv, hg, hb, r⟩
    · exact .inl h2
    · exact .inr ⟨g, cap, cur, hv, hg, (h g (by rw [hv]; rfl)).trans hb, r⟩⟩
theorem append_block {P : Program} {w w' : World} {t e ty : TypeId} {inf : TypeInfo} {z v v' : Value} {n m c : Nat} {xs news : List Value} {A : Addr} (ht : P.underlying t = some (.slice e)) (hi0 : P.info? e = some inf) (hi1 : inf.zero = some z)
    (hown : w.ownsRow 0 e inf.size v n xs) (hl : news.length = m * inf.size) (hnews : ∀ j u, news[j]? = some u → w.cell? (A.add j) = some u) (h1 : ∀ u ∈ news, u.oneCell' = true) (hb : (n + m) * inf.bytes ≤ 140737488355328) (hm : n + m ≤ 9223372036854775807)
    (hr : (Builtin.append_ #[t, t] ty #[v, .slice (some A) m c]).run P w = .ok v' w') : v'.ownBlock = v.ownBlock ∨ v'.ownBlock = some w.heap.size := by
  rcases hown.2 with ⟨rfl, rfl⟩ | ⟨g, cap, cur, rfl, hbg, hg, hnc, hcm, hcs, htake⟩
  · by_cases h0 : m = 0
    · subst h0
      have hn : news = [] := List.eq_nil_of_length_eq_zero (by simpa using hl)
      left
      have : (Builtin.append_ #[t, t] ty #[.slice none 0 0, .slice (some A) 0 c]).run P w = .ok (.slice none 0 0) w := by
        simp [Builtin.append_, run_underlying ht, sizeOf, typeInfo, hi0, Builtin.lenOf, Builtin.firstCells, loadCells, loadCellsFrom]
      rw [this] at hr
      cases hr; rfl
    · right
      have := run_append_nil (P := P) w t ty e inf z ht hi0 hi1 A m c news hl hnews (by omega) (by omega) (by have := hb; simp only [Nat.zero_add] at this; omega)
      rw [this] at hr
      cases hr; rfl
  · by_cases hroom : n + m ≤ cap
    · left
      have hfit : n * inf.size + news.length ≤ cur.size := by rw [hl, hcs, ← Nat.add_mul]; exact Nat.mul_le_mul_right _ hroom
      have := run_append_room (P := P) w t ty e inf ht hi0 g n cap cur hg A m c news hl hnews h1 hroom hfit
      rw [this] at hr
      cases hr; rfl
    · right
      have holds : ∀ j u, xs[j]? = some u → w.cell? ((⟨g, 0, none⟩ : Addr).add j) = some u := hown.cells (g := g) rfl
      have := run_append_grow (P := P) w t ty e inf z ht hi0 hi1 ⟨g, 0, none⟩ n cap xs hown.1 holds A m c news hl hnews (by omega) (by omega) (growslice_fits (by omega) hb)
      rw [this] at hr
      cases hr; rfl
theorem Does.append {t e ty : TypeId} {x y : Operand} {i n k m c bytes : Nat} {v z : Value} {xs news : List Value} {A : Addr} (ho : o.op = .call { callee := .builtin .append, args := #[x, y], argTypes := #[t, t] }) (hty : o.type = ty)
    (hx : F.ev x = some v) (hy : F.ev y = some (.slice (some A) m c)) (hi : L[i]? = some (HL.own e k v n xs)) (ht : C.P.underlying t = some (.slice e))
    (hinf : (C.P.info? e).map (fun i => (i.zero, i.size, i.bytes)) = some (some z, k, bytes)) (hzs : z.cells.size = k) (hk : 0 < k)
    (hnews : ∀ w, Sym C.w0 C.S L w → Cells w A news) (hl : news.length = m * k) (h1 : ∀ u ∈ news, u.oneCell' = true) (hb : (n + m) * bytes ≤ 140737488355328) (hm : n + m ≤ 9223372036854775807) :
    Does C o F L (fun v' : Value => v' = .slice none 0 0 ↔ v = .slice none 0 0 ∧ m = 0) (fun v' => v') (fun v' => L.set i (HL.own e k v' (n + m) (xs ++ news))) := fun a w ok next Q h => by
  obtain ⟨inf, hi0, hi1, hi2, hi3⟩ := info_parts hinf
  have hown : w.ownsRow 0 e k v n xs := ok.sym.at hi
  obtain ⟨v', w', hr, hown', hg, hnil⟩ := run_append_own (P := C.P) w 0 t ty e inf z k bytes ht hi0 hi1 hi2 hi3 hzs hk v n xs hown A m c news hl (fun j u hj => hnews w ok.sym j u hj) h1 (by simpa [maxLen] using hm) hb (Nat.zero_le _)
  refine wpIn_value (fun c h => (by rw [ho] at h; cases h)) (w' := w') (v := v') ?_ (h v' w' hnil ?_)
  · obtain ⟨d, op, ty', ps, af, g⟩ := o
    subst ho; subst hty
    rw [BigFrame.execOp_builtin, BigFrame.builtin_append]
    simp [ok.fr.ev hx, ok.fr.ev hy, hr]
  · have hold : Old (HL.own e k v n xs).supp w w' := ⟨hg.os, hg.tape, hg.output, hg.size, fun j hj hn' => hg.block j hj (fun e => hn' e.symm)⟩
    refine ok.sym.turn hi (fun b hbb => ⟨?_, (hown'.lt b hbb).2⟩) hold hown'
    subst hi2; subst hi3
    rcases append_block ht hi0 hi1 hown hl (fun j u hj => hnews w ok.sym j u hj) h1 hb hm hr with e1 | e1
    · left; exact e1.symm.trans hbb
    · right
      have : some b = some w.heap.size := (show v'.ownBlock = some b from hbb).symm.trans e1
      cases this; exact Nat.le_refl _
/-- Nothing is owned yet. -/
theorem Sym.own_nil {w0 w : World} {S : Nat → Prop} {L : List HL} (hs : Sym w0 S L w) (e : TypeId) (k : Nat) : Sym w0 S (HL.own e k (.slice none 0 0) 0 [] :: L) w := by
  refine ⟨hs.old, fun h hm => ?_, fun h hm b hb => ?_, List.pairwise_cons.2 ⟨fun h _ b hb => ?_, hs.apart⟩⟩
  · rcases List.mem_cons.1 hm with rfl | hm
    · exact World.ownsRow_nil w 0 e k
    · exact hs.holds h hm
  · rcases List.mem_cons.1 hm with rfl | hm
    · cases hb
    · exact hs.supp h hm b hb
  · cases hb
theorem RunL.own_nil {ops : Array Oper} {Q : Exit → Act → World → Prop} {l : List Oper} (e : TypeId) (k : Nat) (h : RunL C ops Q l F (HL.own e k (.slice none 0 0) 0 [] :: L)) : RunL C ops Q l F L := fun a w ok => h a w ⟨ok.fr, ok.sym.own_nil e k⟩
theorem RunC.own_nil {c : Code} {Q : Exit → Act → World → Prop} (e : TypeId) (k : Nat) (h : RunC C c Q F (HL.own e k (.slice none 0 0) 0 [] :: L)) : RunC C c Q F L := fun a w ok => h a w ⟨ok.fr, ok.sym.own_nil e k⟩
/-- A whole block is owned. -/
theorem own_of_obj {w : World} {b : Nat} {cs : Array Value} {e : TypeId} {n k : Nat} (h : w.heap[b]? = some (.cells cs e (0, 0))) (hs : cs.size = n * k) (hm : n ≤ 9223372036854775807) : w.ownsRow 0 e k (.slice (some ⟨b, 0, none⟩) n n) n cs.toList := by
  refine ⟨by simpa using hs, .inr ⟨b, n, cs, rfl, Nat.zero_le _, h, Nat.le_refl _, by simpa [maxLen] using hm, hs, ?_⟩⟩
  rw [List.take_of_length_le]
  simp [hs]
/-- What is owned lies in a block, or there is nothing. -/
theorem RunL.open_own {ops : Array Oper} {Q : Exit → Act → World → Prop} {l : List Oper} {i n k : Nat} {e : TypeId} {v : Value} {xs : List Value} (hi : L[i]? = some (HL.own e k v n xs))
    (h0 : v = .slice none 0 0 → n = 0 → xs = [] → RunL C ops Q l F L)
    (h1 : ∀ (b cap : Nat) (cs : Array Value), v = .slice (some ⟨b, 0, none⟩) n cap → n ≤ cap → cs.size = cap * k → cs.toList.take (n * k) = xs → RunL C ops Q l F (L.set i (HL.obj b (.cells cs e (0, 0))))) : RunL C ops Q l F L := fun a w ok => by
  have hown : w.ownsRow 0 e k v n xs := ok.sym.at hi
  rcases hown.2 with ⟨hv, hn⟩ | ⟨g, cap, cur, hv, _, hg, hnc, hcm, hcs, htake⟩
  · exact h0 hv hn (List.eq_nil_of_length_eq_zero (by simpa [hn] using hown.1)) a w ok
  · refine h1 g cap cur hv hnc hcs htake a w ⟨ok.fr, ok.sym.turn hi (fun c hc => ⟨.inl ?_, ?_⟩) (Old.refl _ w) hg⟩
    · have e1 : c = g := hc
      subst e1; show v.ownBlock = some c; rw [hv]; rfl
    · have e1 : c = g := hc
      subst e1; exact (hown.lt c (by rw [hv]; rfl)).2
/-! ### Calls -/
theorem Grows.call {f : FuncId} {xs : Array Operand} {ts : Array TypeId} {vs : Array Value} {γ : Type} {φ : γ → Prop} {V : γ → Value} {H : γ → List HL} (ho : o.op = .call { callee := .value (.func f), args := xs, argTypes := ts })
    (hv : xs.toList.map F.ev = vs.toList.map some) (hc : ∀ args w, (callFunc f args).run C.P w = .ok (.enter f args) w) (hfn : ∀ w, Sym C.w0 C.S L w → Gives C.P f vs w Nil φ V H) : Grows C o F L φ V H := fun a w ok next Q h => by
  refine ⟨fun _ _ => trivial, ?_⟩
  rw [Oper.semAt_eq _ _ _ (fun c h => by rw [ho] at h; cases h)]
  have e : xs.map a.eval = vs := by
    apply Array.ext'
    rw [Array.toList_map]
    revert hv
    generalize xs.toList = l
    generalize vs.toList = m
    induction l generalizing m with
    | nil => intro h; cases m <;> simp at h ⊢
    | cons p l ih =>
      intro h
      cases m with
      | nil => simp at h
      | cons q m =>
        simp only [List.map_cons, List.cons.injEq] at h ⊢
        exact ⟨ok.fr.ev h.1, ih m h.2⟩
  have hrun : (execOp a.eval o).run C.P w = .ok (.enter f vs) w := by
    simp only [execOp, ho, resolve, e]
    simp [Act.eval, Deferred.ofValue, invoke, hc]
  rw [hrun, Oper.uponIn_enter]
  refine ⟨fun h => by simp [FW] at h, callsFW.2 ((hfn w ok.sym).mono ?_)⟩
  rintro en w' ⟨g, hφ, rfl, hs⟩
  exact h g w' hφ hs.old (ok.sym.grow hs.old hs.holds (fun k hk b hb => by have h1 := hs.supp k hk b hb; exact ⟨h1.2.resolve_right (fun x => x), h1.1⟩) hs.apart)
/-- A call of a function value. -/
theorem Grows.callV {f : FuncId} {x : Operand} {cap : Array Value} {xs : Array Operand} {ts : Array TypeId} {vs : Array Value} {γ : Type} {φ : γ → Prop} {V : γ → Value} {H : γ → List HL} (ho : o.op = .call { callee := .value x, args := xs, argTypes := ts })
    (hx : F.ev x = some (.func (.func f) #[] cap)) (hv : xs.toList.map F.ev = vs.toList.map some) (hc : ∀ args w, (callFunc f args).run C.P w = .ok (.enter f args) w) (hfn : ∀ w, Sym C.w0 C.S L w → Gives C.P f (vs ++ cap) w Nil φ V H) : Grows C o F L φ V H := fun a w ok next Q h => by
  refine ⟨fun _ _ => trivial, ?_⟩
  rw [Oper.semAt_eq _ _ _ (fun c h => by rw [ho] at h; cases h)]
  have e : xs.map a.eval = vs := by
    apply Array.ext'
    rw [Array.toList_map]
    revert hv
    generalize xs.toList = l
    generalize vs.toList = m
    induction l generalizing m with
    | nil => intro h; cases m <;> simp at h ⊢
    | cons p l ih =>
      intro h
      cases m with
      | nil => simp at h
      | cons q m =>
        simp only [List.map_cons, List.cons.injEq] at h ⊢
        exact ⟨ok.fr.ev h.1, ih m h.2⟩
  have hrun : (execOp a.eval o).run C.P w = .ok (.enter f (vs ++ cap)) w := by
    simp only [execOp, ho, resolve, e, ok.fr.ev hx]
    simp [Deferred.ofValue, invoke, hc]
  rw [hrun, Oper.uponIn_enter]
  refine ⟨fun h => by simp [FW] at h, callsFW.2 ((hfn w ok.sym).mono ?_)⟩
  rintro en w' ⟨g, hφ, rfl, hs⟩
  exact h g w' hφ hs.old (ok.sym.grow hs.old hs.holds (fun k hk b hb => by have h1 := hs.supp k hk b hb; exact ⟨h1.2.resolve_right (fun x => x), h1.1⟩) hs.apart)
/-- A call that turns the blocks S' of the heaplets K, which are handed over. -/
theorem Sym.handed {w0 w w' : World} {S S' : Nat → Prop} {K R H : List HL} (hs : Sym w0 S (K ++ R) w) (hk : ∀ b, S' b → b < w.heap.size → ∃ k ∈ K, k.supp b) (hc : Sym w S' H w') : Sym w0 S (H ++ R) w' := by
  have hp := List.pairwise_append.1 hs.apart
  have hfree : ∀ r ∈ R, ∀ b, r.supp b → ¬ S' b := fun r hr b hb hS => by
    obtain ⟨k, hkm, hkb⟩ := hk b hS (hs.supp r (List.mem_append_right _ hr) b hb).1
    exact hp.2.2 k hkm r hr b hkb hb
  refine ⟨hs.old.step hc.old (fun i hi hS => ?_), fun h hm => ?_, fun h hm b hb => ?_, List.pairwise_append.2 ⟨hc.apart, hp.2.1, fun h hm r hr b hb rb => ?_⟩⟩
  · have hz := hs.old.size
    obtain ⟨k, hkm, hkb⟩ := hk i hS (by omega)
    rcases (hs.supp k (List.mem_append_left _ hkm) i hkb).2 with h1 | h1
    · omega
    · exact h1
  · rcases List.mem_append.1 hm with hm | hm
    · exact hc.holds h hm
    · exact h.loc w w' (fun b hb => hc.old.block b (hs.supp h (List.mem_append_right _ hm) b hb).1 (hfree h hm b hb)) (hs.holds h (List.mem_append_right _ hm))
  · have hz := hs.old.size
    have hz' := hc.old.size
    rcases List.mem_append.1 hm with hm | hm
    · have h1 := hc.supp h hm b hb
      refine ⟨h1.1, ?_⟩
      rcases h1.2 with h2 | h2
      · exact .inl (by omega)
      · by_cases hlt : b < w.heap.size
        · obtain ⟨k, hkm, hkb⟩ := hk b h2 hlt
          exact (hs.supp k (List.mem_append_left _ hkm) b hkb).2
        · exact .inl (by omega)
    · have h1 := hs.supp h (List.mem_append_right _ hm) b hb
      exact ⟨by omega, h1.2⟩
  · have h1 := hc.supp h hm b hb
    have h2 := (hs.supp r (List.mem_append_right _ hr) b rb).1
    rcases h1.2 with h3 | h3
    · omega
    · exact hfree r hr b rb h3
theorem Does.call {f : FuncId} {xs : Array Operand} {ts : Array TypeId} {vs : Array Value} {γ : Type} {φ : γ → Prop} {V : γ → Value} {H : γ → List HL} {K R : List HL} {S' : Nat → Prop} (ho : o.op = .call { callee := .value (.func f), args := xs, argTypes := ts })
    (hv : xs.toList.map F.ev = vs.toList.map some) (hc : ∀ args w, (callFunc f args).run C.P w = .ok (.enter f args) w) (hL : HSub (K ++ R) L) (hk : ∀ b, S' b → ∃ k ∈ K, k.supp b)
    (hfn : ∀ w, Sym C.w0 C.S (K ++ R) w → Gives C.P f vs w S' φ V H) : Does C o F L φ V (fun g => H g ++ R) := fun a w ok next Q h => by
  refine ⟨fun _ _ => trivial, ?_⟩
  rw [Oper.semAt_eq _ _ _ (fun c h => by rw [ho] at h; cases h)]
  have e : xs.map a.eval = vs := by
    apply Array.ext'
    rw [Array.toList_map]
    revert hv
    generalize xs.toList = l
    generalize vs.toList = m
    induction l generalizing m with
    | nil => intro h; cases m <;> simp at h ⊢
    | cons p l ih =>
      intro h
      cases m with
      | nil => simp at h
      | cons q m =>
        simp only [List.map_cons, List.cons.injEq] at h ⊢
        exact ⟨ok.fr.ev h.1, ih m h.2⟩
  have hrun : (execOp a.eval o).run C.P w = .ok (.enter f vs) w := by
    simp only [execOp, ho, resolve, e]
    simp [Act.eval, Deferred.ofValue, invoke, hc]
  rw [hrun, Oper.uponIn_enter]
  have hsub := ok.sym.sub hL
  refine ⟨fun h => by simp [FW] at h, callsFW.2 ((hfn w hsub).mono ?_)⟩
  rintro en w' ⟨g, hφ, rfl, hs⟩
  exact h g w' hφ (hsub.handed (fun b hb _ => hk b hb) hs)
end mem
end Go.V
namespace Go.V
open Go
/-- The cells of a block from k on. -/
def CellsIn (cs : Array Value) : Nat → List Value → Prop
  | _, [] => True
  | k, v :: r => cs[k]? = some v ∧ CellsIn cs (k + 1) r
theorem CellsIn.get {cs : Array Value} : ∀ {vs : List Value} {k : Nat}, CellsIn cs k vs → ∀ j v, vs[j]? = some v → cs[k + j]? = some v
  | [], _, _, j, v, h => by simp at h
  | u :: r, k, hh, 0, v, h => by simp at h; subst h; exact hh.1
  | u :: r, k, hh, j + 1, v, h => by
    have := CellsIn.get hh.2 j v (by simpa using h)
    rwa [show k + (j + 1) = k + 1 + j by omega]
theorem cells_obj {w : World} {b k : Nat} {cs : Array Value} {t : TypeId} {fz : Nat × Nat} {vs : List Value} (h : w.heap[b]? = some (.cells cs t fz)) (hv : CellsIn cs k vs) : Cells w ⟨b, k, none⟩ vs := fun j v hj => by
  rw [add_new]; exact cell_of_obj h (hv.get j v hj)
def nth {α : Type} : List α → Nat → Option α
  | [], _ => none
  | v :: _, 0 => some v
  | _ :: r, k + 1 => nth r k
theorem nth_eq {α : Type} : ∀ (l : List α) (k : Nat), nth l k = l[k]?
  | [], k => by simp [nth]
  | v :: r, 0 => by simp [nth]
  | v :: r, k + 1 => by simp [nth, nth_eq r k]
theorem cell_nth {w : World} {b k : Nat} {cs : Array Value} {t : TypeId} {fz : Nat × Nat} {v : Value} (h : w.heap[b]? = some (.cells cs t fz)) (hk : nth cs.toList k = some v) : w.cell? ⟨b, k, none⟩ = some v :=
  cell_of_obj h (by rw [nth_eq] at hk; simpa using hk)
/-- The same by 'nth'. -/
def CellsAt (cs : List Value) : Nat → List Value → Prop
  | _, [] => True
  | k, v :: r => nth cs k = some v ∧ CellsAt cs (k + 1) r
theorem CellsAt.cellsIn {cs : Array Value} : ∀ {vs : List Value} {k : Nat}, CellsAt cs.toList k vs → CellsIn cs k vs
  | [], _, _ => trivial
  | _ :: _, _, h => ⟨by have := h.1; rw [nth_eq] at this; simpa using this, CellsAt.cellsIn h.2⟩
theorem cells_nth {w : World} {b k : Nat} {cs : Array Value} {t : TypeId} {fz : Nat × Nat} {vs : List Value} (h : w.heap[b]? = some (.cells cs t fz)) (hv : CellsAt cs.toList k vs) : Cells w ⟨b, k, none⟩ vs := cells_obj h hv.cellsIn
section loc
variable {C : Cx} {F : Fr} {L : List HL} {o : Oper}
theorem Still.fieldAddrL {s : TypeId} {x : Operand} {k b off off' : Nat} {fs : Array Field} {f : Field} {n : Nat} (ho : o.op = .fieldAddr s x k) (hx : F.ev x = some (.pointer (some ⟨b, off, none⟩))) (hs : C.P.underlying s = some (.struct fs)) (hf : nth fs.toList k = some f)
    (hz : ∀ w, (sizeOf f.type).run C.P w = .ok (n + 1) w) (he : off + f.offset = off') : Still C o F L (.pointer (some ⟨b, off', none⟩)) := by
  have := Still.fieldAddr (L := L) ho hx hs (by rw [nth_eq] at hf; simpa using hf) hz; rw [add_new, he] at this; exact this
theorem Still.fieldAddrA {s : TypeId} {x : Operand} {k off : Nat} {A : Addr} {fs : Array Field} {f : Field} {n : Nat} (ho : o.op = .fieldAddr s x k) (hx : F.ev x = some (.pointer (some A))) (hs : C.P.underlying s = some (.struct fs)) (hf : nth fs.toList k = some f)
    (hz : ∀ w, (sizeOf f.type).run C.P w = .ok (n + 1) w) (he : f.offset = off) : Still C o F L (.pointer (some (A.add off))) := by
  have := Still.fieldAddr (L := L) ho hx hs (by rw [nth_eq] at hf; simpa using hf) hz; rw [he] at this; exact this
theorem Still.extractN {x : Operand} {i : Nat} {vs : Array Value} {v : Value} (ho : o.op = .extract x i) (hx : F.ev x = some (.tuple vs)) (hv : nth vs.toList i = some v) : Still C o F L v :=
  Still.extract ho hx (by rw [nth_eq] at hv; simpa using hv)
theorem Still.indexSliceL {t e : TypeId} {x ix : Operand} {b off len cap : Nat} {k : IntKind} {i : Int} {n : Nat} (ho : o.op = .indexAddr t x ix) (hx : F.ev x = some (.slice (some ⟨b, off, none⟩) len cap)) (hi : F.ev ix = some (.int k i))
    (ht : C.P.underlying t = some (.slice e)) (hz : ∀ w, (sizeOf e).run C.P w = .ok n w) (hb : 0 ≤ i ∧ i < len) : Still C o F L (.pointer (some ⟨b, off + i.toNat * n, none⟩)) := by
  have := Still.indexSlice (L := L) ho hx hi ht hz hb; rwa [add_new] at this
theorem Still.indexArrL {t e : TypeId} {x ix : Operand} {b off len : Nat} {k : IntKind} {i : Int} {n : Nat} (ho : o.op = .indexAddr t x ix) (hx : F.ev x = some (.pointer (some ⟨b, off, none⟩))) (hi : F.ev ix = some (.int k i))
    (ht : C.P.underlying t = some (.array len e)) (hz : ∀ w, (sizeOf e).run C.P w = .ok n w) (hb : 0 ≤ i ∧ i < len) : Still C o F L (.pointer (some ⟨b, off + i.toNat * n, none⟩)) := by
  have := Still.indexArr (L := L) ho hx hi ht hz hb; rwa [add_new] at this
theorem Still.indexSliceO {t e : TypeId} {x ix : Operand} {base : Option Addr} {A : Addr} {len cap : Nat} {k : IntKind} {i : Int} {n : Nat} (ho : o.op = .indexAddr t x ix) (hx : F.ev x = some (.slice base len cap)) (hi : F.ev ix = some (.int k i))
    (ht : C.P.underlying t = some (.slice e)) (hz : ∀ w, (sizeOf e).run C.P w = .ok n w) (hA : base = some A) (hb : 0 ≤ i ∧ i < len) : Still C o F L (.pointer (some (A.add (i.toNat * n)))) := by
  subst hA; exact Still.indexSlice ho hx hi ht hz hb
theorem Still.indexSliceN {t e : TypeId} {x ix : Operand} {base : Option Addr} {A : Addr} {len cap : Nat} {k : IntKind} {m : Nat} {n : Nat} (ho : o.op = .indexAddr t x ix) (hx : F.ev x = some (.slice base len cap)) (hi : F.ev ix = some (.int k (m : Int)))
    (ht : C.P.underlying t = some (.slice e)) (hz : ∀ w, (sizeOf e).run C.P w = .ok n w) (hA : base = some A) (hb : m < len) : Still C o F L (.pointer (some (A.add (m * n)))) := by
  have := Still.indexSliceO (L := L) ho hx hi ht hz hA ⟨by omega, by omega⟩
  simpa using this
theorem Still.indexArrN {t e : TypeId} {x ix : Operand} {A : Addr} {len : Nat} {k : IntKind} {m : Nat} {n : Nat} (ho : o.op = .indexAddr t x ix) (hx : F.ev x = some (.pointer (some A))) (hi : F.ev ix = some (.int k (m : Int)))
    (ht : C.P.underlying t = some (.array len e)) (hz : ∀ w, (sizeOf e).run C.P w = .ok n w) (hb : m < len) : Still C o F L (.pointer (some (A.add (m * n)))) := by
  have := Still.indexArr (L := L) ho hx hi ht hz ⟨by omega, by omega⟩
  simpa using this
theorem Still.indexSliceNL {t e : TypeId} {x ix : Operand} {b off len cap : Nat} {k : IntKind} {m : Nat} {n : Nat} (ho : o.op = .indexAddr t x ix) (hx : F.ev x = some (.slice (some ⟨b, off, none⟩) len cap)) (hi : F.ev ix = some (.int k (m : Int)))
    (ht : C.P.underlying t = some (.slice e)) (hz : ∀ w, (sizeOf e).run C.P w = .ok n w) (hb : m < len) : Still C o F L (.pointer (some ⟨b, off + m * n, none⟩)) := by
  have := Still.indexSliceL (L := L) ho hx hi ht hz ⟨by omega, by omega⟩
  simpa using this
theorem Still.indexArrNL {t e : TypeId} {x ix : Operand} {b off len : Nat} {k : IntKind} {m : Nat} {n : Nat} (ho : o.op = .indexAddr t x ix) (hx : F.ev x = some (.pointer (some ⟨b, off, none⟩))) (hi : F.ev ix = some (.int k (m : Int)))
    (ht : C.P.underlying t = some (.array len e)) (hz : ∀ w, (sizeOf e).run C.P w = .ok n w) (hb : m < len) : Still C o F L (.pointer (some ⟨b, off + m * n, none⟩)) := by
  have := Still.indexArrL (L := L) ho hx hi ht hz ⟨by omega, by omega⟩
  simpa using this
theorem Still.indexSliceE {t e : TypeId} {x ix : Operand} {base : Option Addr} {A : Addr} {len cap : Nat} {k : IntKind} {i : Int} (m : Nat) {n : Nat} (ho : o.op = .indexAddr t x ix) (hx : F.ev x = some (.slice base len cap)) (hi : F.ev ix = some (.int k i))
    (ht : C.P.underlying t = some (.slice e)) (hz : ∀ w, (sizeOf e).run C.P w = .ok n w) (hA : base = some A) (hm : i = (m : Int)) (hb : m < len) : Still C o F L (.pointer (some (A.add (m * n)))) := by
  subst hm; exact Still.indexSliceN ho hx hi ht hz hA hb
theorem Still.indexArrE {t e : TypeId} {x ix : Operand} {A : Addr} {len : Nat} {k : IntKind} {i : Int} (m : Nat) {n : Nat} (ho : o.op = .indexAddr t x ix) (hx : F.ev x = some (.pointer (some A))) (hi : F.ev ix = some (.int k i))
    (ht : C.P.underlying t = some (.array len e)) (hz : ∀ w, (sizeOf e).run C.P w = .ok n w) (hm : i = (m : Int)) (hb : m < len) : Still C o F L (.pointer (some (A.add (m * n)))) := by
  subst hm; exact Still.indexArrN ho hx hi ht hz hb
theorem Still.indexSliceEL {t e : TypeId} {x ix : Operand} {b off len cap : Nat} {k : IntKind} {i : Int} (m : Nat) {n : Nat} (ho : o.op = .indexAddr t x ix) (hx : F.ev x = some (.slice (some ⟨b, off, none⟩) len cap)) (hi : F.ev ix = some (.int k i))
    (ht : C.P.underlying t = some (.slice e)) (hz : ∀ w, (sizeOf e).run C.P w = .ok n w) (hm : i = (m : Int)) (hb : m < len) : Still C o F L (.pointer (some ⟨b, off + m * n, none⟩)) := by
  subst hm; exact Still.indexSliceNL ho hx hi ht hz hb
theorem Still.indexArrEL {t e : TypeId} {x ix : Operand} {b off len : Nat} {k : IntKind} {i : Int} (m : Nat) {n : Nat} (ho : o.op = .indexAddr t x ix) (hx : F.ev x = some (.pointer (some ⟨b, off, none⟩))) (hi : F.ev ix = some (.int k i))
    (ht : C.P.underlying t = some (.array len e)) (hz : ∀ w, (sizeOf e).run C.P w = .ok n w) (hm : i = (m : Int)) (hb : m < len) : Still C o F L (.pointer (some ⟨b, off + m * n, none⟩)) := by
  subst hm; exact Still.indexArrNL ho hx hi ht hz hb
theorem Sym.base0 {w0 w : World} {L : List HL} (hs : Sym w0 Nil L w) {a : Addr} {v : Value} (hc : w0.cell? a = some v) : w.cell? a = some v := hs.base hc (fun x => x)
theorem Cells.base0 {w0 w : World} {L : List HL} {A : Addr} {vs : List Value} (hc : Cells w0 A vs) (hs : Sym w0 Nil L w) : Cells w A vs := fun j v hj => hs.base0 (hc j v hj)
theorem Fr.get_append (c k : Fr) (t : Nat) : Fr.get (c ++ k) t = (Fr.get c t).or (Fr.get k t) := by
  induction c with
  | nil => simp [Fr.get]
  | cons p r ih =>
    obtain ⟨s, v⟩ := p
    simp only [List.cons_append, Fr.get_cons, ih]
    split <;> simp
theorem Fr.Sub.app {c k F : Fr} (h1 : c.Sub F) (h2 : k.Sub F) : Fr.Sub (c ++ k) F := fun t v h => by
  rw [Fr.get_append] at h
  cases hc : Fr.get c t with
  | some u => rw [hc] at h; simp at h; subst h; exact h1 t u hc
  | none => rw [hc] at h; simp at h; exact h2 t v h
/-- A loop: what is kept (of the frame, of the heaplets), what changes. -/
theorem RunC.loop2 {c : Code} {Q : Exit → Act → World → Prop} {γ : Type} {keep : Fr} {hkeep : List HL} (I : γ → Prop) (μ : γ → Nat) (chg : γ → Fr) (hchg : γ → List HL) (g0 : γ) (h0 : I g0) (hF : (chg g0).Sub F) (hk : keep.Sub F) (hL : HSub (hchg g0 ++ hkeep) L)
    (round : ∀ g, I g → RunC C c (Exit.then (Again C I μ (fun g => chg g ++ keep) (fun g => hchg g ++ hkeep) (μ g)) Q) (chg g ++ keep) (hchg g ++ hkeep)) : RunC C (.loop c) Q F L :=
  RunC.loop I μ (fun g => chg g ++ keep) (fun g => hchg g ++ hkeep) g0 h0 (hF.app hk) hL round
end loc
end Go.V
namespace Go.V
open Go
section builds
variable {C : Cx} {F : Fr} {L : List HL} {o : Oper}
theorem Still.build_1 {t : TypeId} {i0 : Nat} {a0 : Operand} {x0_0 : Value} (g : Value → Value) (ho : o.op = .build t #[(i0, a0)]) (h0 : F.ev a0 = some x0_0) (hr : ∀ w, (Instr.build t #[(i0, x0_0)]).run C.P w = .ok (g x0_0) w) : Still C o F L (g x0_0) :=
  Still.build (vs := #[(i0, x0_0)]) ho (by simp only [List.map_cons, List.map_nil, h0]) hr

theorem Still.build_1_1 {t : TypeId} {i0 i1 : Nat} {a0 a1 : Operand} {x0_0 x1_0 : Value} (g : Value → Value → Value) (ho : o.op = .build t #[(i0, a0), (i1, a1)]) (h0 : F.ev a0 = some x0_0) (h1 : F.ev a1 = some x1_0) (hr : ∀ w, (Instr.build t #[(i0, x0_0), (i1, x1_0)]).run C.P w = .ok (g x0_0 x1_0) w) : Still C o F L (g x0_0 x1_0) :=
  Still.build (vs := #[(i0, x0_0), (i1, x1_0)]) ho (by simp only [List.map_cons, List.map_nil, h0, h1]) hr

theorem Still.build_1_1_1 {t : TypeId} {i0 i1 i2 : Nat} {a0 a1 a2 : Operand} {x0_0 x1_0 x2_0 : Value} (g : Value → Value → Value → Value) (ho : o.op = .build t #[(i0, a0), (i1, a1), (i2, a2)]) (h0 : F.ev a0 = some x0_0) (h1 : F.ev a1 = some x1_0) (h2 : F.ev a2 = some x2_0) (hr : ∀ w, (Instr.build t #[(i0, x0_0), (i1, x1_0), (i2, x2_0)]).run C.P w = .ok (g x0_0 x1_0 x2_0) w) : Still C o F L (g x0_0 x1_0 x2_0) :=
  Still.build (vs := #[(i0, x0_0), (i1, x1_0), (i2, x2_0)]) ho (by simp only [List.map_cons, List.map_nil, h0, h1, h2]) hr

theorem Still.build_1_1_1_1 {t : TypeId} {i0 i1 i2 i3 : Nat} {a0 a1 a2 a3 : Operand} {x0_0 x1_0 x2_0 x3_0 : Value} (g : Value → Value → Value → Value → Value) (ho : o.op = .build t #[(i0, a0), (i1, a1), (i2, a2), (i3, a3)]) (h0 : F.ev a0 = some x0_0) (h1 : F.ev a1 = some x1_0) (h2 : F.ev a2 = some x2_0) (h3 : F.ev a3 = some x3_0) (hr : ∀ w, (Instr.build t #[(i0, x0_0), (i1, x1_0), (i2, x2_0), (i3, x3_0)]).run C.P w = .ok (g x0_0 x1_0 x2_0 x3_0) w) : Still C o F L (g x0_0 x1_0 x2_0 x3_0) :=
  Still.build (vs := #[(i0, x0_0), (i1, x1_0), (i2, x2_0), (i3, x3_0)]) ho (by simp only [List.map_cons, List.map_nil, h0, h1, h2, h3]) hr

theorem Still.build_2_2 {t : TypeId} {i0 i1 : Nat} {a0 a1 : Operand} {x0_0 x0_1 x1_0 x1_1 : Value} (g : Value → Value → Value → Value → Value) (ho : o.op = .build t #[(i0, a0), (i1, a1)]) (h0 : F.ev a0 = some (.agg #[x0_0, x0_1])) (h1 : F.ev a1 = some (.agg #[x1_0, x1_1])) (hr : ∀ w, (Instr.build t #[(i0, (.agg #[x0_0, x0_1])), (i1, (.agg #[x1_0, x1_1]))]).run C.P w = .ok (g x0_0 x0_1 x1_0 x1_1) w) : Still C o F L (g x0_0 x0_1 x1_0 x1_1) :=
  Still.build (vs := #[(i0, (.agg #[x0_0, x0_1])), (i1, (.agg #[x1_0, x1_1]))]) ho (by simp only [List.map_cons, List.map_nil, h0, h1]) hr

theorem Still.build_4_1 {t : TypeId} {i0 i1 : Nat} {a0 a1 : Operand} {x0_0 x0_1 x0_2 x0_3 x1_0 : Value} (g : Value → Value → Value → Value → Value → Value) (ho : o.op = .build t #[(i0, a0), (i1, a1)]) (h0 : F.ev a0 = some (.agg #[x0_0, x0_1, x0_2, x0_3])) (h1 : F.ev a1 = some x1_0) (hr : ∀ w, (Instr.build t #[(i0, (.agg #[x0_0, x0_1, x0_2, x0_3])), (i1, x1_0)]).run C.P w = .ok (g x0_0 x0_1 x0_2 x0_3 x1_0) w) : Still C o F L (g x0_0 x0_1 x0_2 x0_3 x1_0) :=
  Still.build (vs := #[(i0, (.agg #[x0_0, x0_1, x0_2, x0_3])), (i1, x1_0)]) ho (by simp only [List.map_cons, List.map_nil, h0, h1]) hr

theorem Still.build_1_4 {t : TypeId} {i0 i1 : Nat} {a0 a1 : Operand} {x0_0 x1_0 x1_1 x1_2 x1_3 : Value} (g : Value → Value → Value → Value → Value → Value) (ho : o.op = .build t #[(i0, a0), (i1, a1)]) (h0 : F.ev a0 = some x0_0) (h1 : F.ev a1 = some (.agg #[x1_0, x1_1, x1_2, x1_3])) (hr : ∀ w, (Instr.build t #[(i0, x0_0), (i1, (.agg #[x1_0, x1_1, x1_2, x1_3]))]).run C.P w = .ok (g x0_0 x1_0 x1_1 x1_2 x1_3) w) : Still C o F L (g x0_0 x1_0 x1_1 x1_2 x1_3) :=
  Still.build (vs := #[(i0, x0_0), (i1, (.agg #[x1_0, x1_1, x1_2, x1_3]))]) ho (by simp only [List.map_cons, List.map_nil, h0, h1]) hr

theorem Still.build_2_1 {t : TypeId} {i0 i1 : Nat} {a0 a1 : Operand} {x0_0 x0_1 x1_0 : Value} (g : Value → Value → Value → Value) (ho : o.op = .build t #[(i0, a0), (i1, a1)]) (h0 : F.ev a0 = some (.agg #[x0_0, x0_1])) (h1 : F.ev a1 = some x1_0) (hr : ∀ w, (Instr.build t #[(i0, (.agg #[x0_0, x0_1])), (i1, x1_0)]).run C.P w = .ok (g x0_0 x0_1 x1_0) w) : Still C o F L (g x0_0 x0_1 x1_0) :=
  Still.build (vs := #[(i0, (.agg #[x0_0, x0_1])), (i1, x1_0)]) ho (by simp only [List.map_cons, List.map_nil, h0, h1]) hr

theorem Still.build_1_2 {t : TypeId} {i0 i1 : Nat} {a0 a1 : Operand} {x0_0 x1_0 x1_1 : Value} (g : Value → Value → Value → Value) (ho : o.op = .build t #[(i0, a0), (i1, a1)]) (h0 : F.ev a0 = some x0_0) (h1 : F.ev a1 = some (.agg #[x1_0, x1_1])) (hr : ∀ w, (Instr.build t #[(i0, x0_0), (i1, (.agg #[x1_0, x1_1]))]).run C.P w = .ok (g x0_0 x1_0 x1_1) w) : Still C o F L (g x0_0 x1_0 x1_1) :=
  Still.build (vs := #[(i0, x0_0), (i1, (.agg #[x1_0, x1_1]))]) ho (by simp only [List.map_cons, List.map_nil, h0, h1]) hr

theorem Still.build_1_1_1_1_1 {t : TypeId} {i0 i1 i2 i3 i4 : Nat} {a0 a1 a2 a3 a4 : Operand} {x0_0 x1_0 x2_0 x3_0 x4_0 : Value} (g : Value → Value → Value → Value → Value → Value) (ho : o.op = .build t #[(i0, a0), (i1, a1), (i2, a2), (i3, a3), (i4, a4)]) (h0 : F.ev a0 = some x0_0) (h1 : F.ev a1 = some x1_0) (h2 : F.ev a2 = some x2_0) (h3 : F.ev a3 = some x3_0) (h4 : F.ev a4 = some x4_0) (hr : ∀ w, (Instr.build t #[(i0, x0_0), (i1, x1_0), (i2, x2_0), (i3, x3_0), (i4, x4_0)]).run C.P w = .ok (g x0_0 x1_0 x2_0 x3_0 x4_0) w) : Still C o F L (g x0_0 x1_0 x2_0 x3_0 x4_0) :=
  Still.build (vs := #[(i0, x0_0), (i1, x1_0), (i2, x2_0), (i3, x3_0), (i4, x4_0)]) ho (by simp only [List.map_cons, List.map_nil, h0, h1, h2, h3, h4]) hr

theorem Still.build_4 {t : TypeId} {i0 : Nat} {a0 : Operand} {x0_0 x0_1 x0_2 x0_3 : Value} (g : Value → Value → Value → Value → Value) (ho : o.op = .build t #[(i0, a0)]) (h0 : F.ev a0 = some (.agg #[x0_0, x0_1, x0_2, x0_3])) (hr : ∀ w, (Instr.build t #[(i0, (.agg #[x0_0, x0_1, x0_2, x0_3]))]).run C.P w = .ok (g x0_0 x0_1 x0_2 x0_3) w) : Still C o F L (g x0_0 x0_1 x0_2 x0_3) :=
  Still.build (vs := #[(i0, (.agg #[x0_0, x0_1, x0_2, x0_3]))]) ho (by simp only [List.map_cons, List.map_nil, h0]) hr

theorem Still.build_2 {t : TypeId} {i0 : Nat} {a0 : Operand} {x0_0 x0_1 : Value} (g : Value → Value → Value) (ho : o.op = .build t #[(i0, a0)]) (h0 : F.ev a0 = some (.agg #[x0_0, x0_1])) (hr : ∀ w, (Instr.build t #[(i0, (.agg #[x0_0, x0_1]))]).run C.P w = .ok (g x0_0 x0_1) w) : Still C o F L (g x0_0 x0_1) :=
  Still.build (vs := #[(i0, (.agg #[x0_0, x0_1]))]) ho (by simp only [List.map_cons, List.map_nil, h0]) hr

theorem Still.build_5 {t : TypeId} {i0 : Nat} {a0 : Operand} {x0_0 x0_1 x0_2 x0_3 x0_4 : Value} (g : Value → Value → Value → Value → Value → Value) (ho : o.op = .build t #[(i0, a0)]) (h0 : F.ev a0 = some (.agg #[x0_0, x0_1, x0_2, x0_3, x0_4])) (hr : ∀ w, (Instr.build t #[(i0, (.agg #[x0_0, x0_1, x0_2, x0_3, x0_4]))]).run C.P w = .ok (g x0_0 x0_1 x0_2 x0_3 x0_4) w) : Still C o F L (g x0_0 x0_1 x0_2 x0_3 x0_4) :=
  Still.build (vs := #[(i0, (.agg #[x0_0, x0_1, x0_2, x0_3, x0_4]))]) ho (by simp only [List.map_cons, List.map_nil, h0]) hr

theorem Still.build_2_1_1 {t : TypeId} {i0 i1 i2 : Nat} {a0 a1 a2 : Operand} {x0_0 x0_1 x1_0 x2_0 : Value} (g : Value → Value → Value → Value → Value) (ho : o.op = .build t #[(i0, a0), (i1, a1), (i2, a2)]) (h0 : F.ev a0 = some (.agg #[x0_0, x0_1])) (h1 : F.ev a1 = some x1_0) (h2 : F.ev a2 = some x2_0) (hr : ∀ w, (Instr.build t #[(i0, (.agg #[x0_0, x0_1])), (i1, x1_0), (i2, x2_0)]).run C.P w = .ok (g x0_0 x0_1 x1_0 x2_0) w) : Still C o F L (g x0_0 x0_1 x1_0 x2_0) :=
  Still.build (vs := #[(i0, (.agg #[x0_0, x0_1])), (i1, x1_0), (i2, x2_0)]) ho (by simp only [List.map_cons, List.map_nil, h0, h1, h2]) hr

theorem Still.build_1_1_1_1_1_1 {t : TypeId} {i0 i1 i2 i3 i4 i5 : Nat} {a0 a1 a2 a3 a4 a5 : Operand} {x0_0 x1_0 x2_0 x3_0 x4_0 x5_0 : Value} (g : Value → Value → Value → Value → Value → Value → Value) (ho : o.op = .build t #[(i0, a0), (i1, a1), (i2, a2), (i3, a3), (i4, a4), (i5, a5)]) (h0 : F.ev a0 = some x0_0) (h1 : F.ev a1 = some x1_0) (h2 : F.ev a2 = some x2_0) (h3 : F.ev a3 = some x3_0) (h4 : F.ev a4 = some x4_0) (h5 : F.ev a5 = some x5_0) (hr : ∀ w, (Instr.build t #[(i0, x0_0), (i1, x1_0), (i2, x2_0), (i3, x3_0), (i4, x4_0), (i5, x5_0)]).run C.P w = .ok (g x0_0 x1_0 x2_0 x3_0 x4_0 x5_0) w) : Still C o F L (g x0_0 x1_0 x2_0 x3_0 x4_0 x5_0) :=
  Still.build (vs := #[(i0, x0_0), (i1, x1_0), (i2, x2_0), (i3, x3_0), (i4, x4_0), (i5, x5_0)]) ho (by simp only [List.map_cons, List.map_nil, h0, h1, h2, h3, h4, h5]) hr

theorem Still.build_5_1 {t : TypeId} {i0 i1 : Nat} {a0 a1 : Operand} {x0_0 x0_1 x0_2 x0_3 x0_4 x1_0 : Value} (g : Value → Value → Value → Value → Value → Value → Value) (ho : o.op = .build t #[(i0, a0), (i1, a1)]) (h0 : F.ev a0 = some (.agg #[x0_0, x0_1, x0_2, x0_3, x0_4])) (h1 : F.ev a1 = some x1_0) (hr : ∀ w, (Instr.build t #[(i0, (.agg #[x0_0, x0_1, x0_2, x0_3, x0_4])), (i1, x1_0)]).run C.P w = .ok (g x0_0 x0_1 x0_2 x0_3 x0_4 x1_0) w) : Still C o F L (g x0_0 x0_1 x0_2 x0_3 x0_4 x1_0) :=
  Still.build (vs := #[(i0, (.agg #[x0_0, x0_1, x0_2, x0_3, x0_4])), (i1, x1_0)]) ho (by simp only [List.map_cons, List.map_nil, h0, h1]) hr

theorem Still.build_1_5 {t : TypeId} {i0 i1 : Nat} {a0 a1 : Operand} {x0_0 x1_0 x1_1 x1_2 x1_3 x1_4 : Value} (g : Value → Value → Value → Value → Value → Value → Value) (ho : o.op = .build t #[(i0, a0), (i1, a1)]) (h0 : F.ev a0 = some x0_0) (h1 : F.ev a1 = some (.agg #[x1_0, x1_1, x1_2, x1_3, x1_4])) (hr : ∀ w, (Instr.build t #[(i0, x0_0), (i1, (.agg #[x1_0, x1_1, x1_2, x1_3, x1_4]))]).run C.P w = .ok (g x0_0 x1_0 x1_1 x1_2 x1_3 x1_4) w) : Still C o F L (g x0_0 x1_0 x1_1 x1_2 x1_3 x1_4) :=
  Still.build (vs := #[(i0, x0_0), (i1, (.agg #[x1_0, x1_1, x1_2, x1_3, x1_4]))]) ho (by simp only [List.map_cons, List.map_nil, h0, h1]) hr

theorem Still.build_4_4 {t : TypeId} {i0 i1 : Nat} {a0 a1 : Operand} {x0_0 x0_1 x0_2 x0_3 x1_0 x1_1 x1_2 x1_3 : Value} (g : Value → Value → Value → Value → Value → Value → Value → Value → Value) (ho : o.op = .build t #[(i0, a0), (i1, a1)]) (h0 : F.ev a0 = some (.agg #[x0_0, x0_1, x0_2, x0_3])) (h1 : F.ev a1 = some (.agg #[x1_0, x1_1, x1_2, x1_3])) (hr : ∀ w, (Instr.build t #[(i0, (.agg #[x0_0, x0_1, x0_2, x0_3])), (i1, (.agg #[x1_0, x1_1, x1_2, x1_3]))]).run C.P w = .ok (g x0_0 x0_1 x0_2 x0_3 x1_0 x1_1 x1_2 x1_3) w) : Still C o F L (g x0_0 x0_1 x0_2 x0_3 x1_0 x1_1 x1_2 x1_3) :=
  Still.build (vs := #[(i0, (.agg #[x0_0, x0_1, x0_2, x0_3])), (i1, (.agg #[x1_0, x1_1, x1_2, x1_3]))]) ho (by simp only [List.map_cons, List.map_nil, h0, h1]) hr

theorem Still.build_4_4_4_4 {t : TypeId} {i0 i1 i2 i3 : Nat} {a0 a1 a2 a3 : Operand} {x0_0 x0_1 x0_2 x0_3 x1_0 x1_1 x1_2 x1_3 x2_0 x2_1 x2_2 x2_3 x3_0 x3_1 x3_2 x3_3 : Value} (g : Value → Value → Value → Value → Value → Value → Value → Value → Value → Value → Value → Value → Value → Value → Value → Value → Value) (ho : o.op = .build t #[(i0, a0), (i1, a1), (i2, a2), (i3, a3)]) (h0 : F.ev a0 = some (.agg #[x0_0, x0_1, x0_2, x0_3])) (h1 : F.ev a1 = some (.agg #[x1_0, x1_1, x1_2, x1_3])) (h2 : F.ev a2 = some (.agg #[x2_0, x2_1, x2_2, x2_3])) (h3 : F.ev a3 = some (.agg #[x3_0, x3_1, x3_2, x3_3])) (hr : ∀ w, (Instr.build t #[(i0, (.agg #[x0_0, x0_1, x0_2, x0_3])), (i1, (.agg #[x1_0, x1_1, x1_2, x1_3])), (i2, (.agg #[x2_0, x2_1, x2_2, x2_3])), (i3, (.agg #[x3_0, x3_1, x3_2, x3_3]))]).run C.P w = .ok (g x0_0 x0_1 x0_2 x0_3 x1_0 x1_1 x1_2 x1_3 x2_0 x2_1 x2_2 x2_3 x3_0 x3_1 x3_2 x3_3) w) : Still C o F L (g x0_0 x0_1 x0_2 x0_3 x1_0 x1_1 x1_2 x1_3 x2_0 x2_1 x2_2 x2_3 x3_0 x3_1 x3_2 x3_3) :=
  Still.build (vs := #[(i0, (.agg #[x0_0, x0_1, x0_2, x0_3])), (i1, (.agg #[x1_0, x1_1, x1_2, x1_3])), (i2, (.agg #[x2_0, x2_1, x2_2, x2_3])), (i3, (.agg #[x3_0, x3_1, x3_2, x3_3]))]) ho (by simp only [List.map_cons, List.map_nil, h0, h1, h2, h3]) hr

end builds
end Go.V
/- The proof layer, part e: regions that draw their order. Operations that only look are taken as early as they may; what makes memory is taken when nothing else is ready; the tail comes in the order of the text. -/
namespace Go.V
open Go
def NoQ : Exit → Act → World → Prop := fun _ _ _ => False
section draw
variable {r : Option Nat} {P : Program} {ops : Array Oper} {md : Region.Mode}
/-- 'a'' is 'a' but for one slot (and deferred calls). -/
def But (a a' : Act) (dst : Option Tmp) : Prop := ∃ D u, a' = Act.put { a with defers := D } dst u
/-- In this world and in every later one the operation yields v, or it is not wanted. -/
def Yields' (P : Program) (ops : Array Oper) (o : Oper) (v : Value) (a : Act) (w : World) : Prop :=
  (Region.wanted o (yielded ops a.tmps) = true ∧ ∀ w', Old Nil w w' → (execOp a.eval o).run P w' = .ok (.value v) w') ∨ (Region.wanted o (yielded ops a.tmps) = false ∧ v = undef)
theorem Yields'.later {o : Oper} {v : Value} {a : Act} {w w' : World} (h : Yields' P ops o v a w) (ho : Old Nil w w') : Yields' P ops o v a w' := by
  rcases h with ⟨h1, h2⟩ | h
  · exact .inl ⟨h1, fun w2 h3 => h2 w2 (ho.trans h3)⟩
  · exact .inr h
theorem Yields'.but {o : Oper} {v : Value} {a a' : Act} {w : World} {dst : Option Tmp} (h : Yields' P ops o v a w) (hs : ∀ cs b, o.op ≠ .select cs b) (hb : But a a' dst) (hd : ∀ d, dst = some d → d ∉ o.looksAt ops) : Yields' P ops o v a' w := by
  obtain ⟨D, u, rfl⟩ := hb
  have e1 : execOp (Act.put { a with defers := D } dst u).eval o = execOp a.eval o := (execOp_put o hs { a with defers := D } dst u hd).trans rfl
  have e2 : Region.wanted o (yielded ops (Act.put { a with defers := D } dst u).tmps) = Region.wanted o (yielded ops a.tmps) := (wanted_put o { a with defers := D } dst u hd).trans rfl
  unfold Yields' at *
  rw [e1, e2]
  exact h
theorem Yields'.opIn {i : Nat} {o : Oper} {v : Value} {a : Act} {w : World} {Q : Exit → Act → World → Prop} (hi : ops[i]? = some o) (hd : ∀ c, o.op ≠ .defer c) (h : Yields' P ops o v a w) {K : Act → World → Prop} (hk : K (a.put o.dst v) w) : wpOpIn (FW r) 0 P ops Q i K a w := by
  unfold wpOpIn
  simp only [hi]
  rcases h with ⟨h1, h2⟩ | ⟨h1, rfl⟩
  · simp only [h1, if_true]
    refine ⟨fun _ _ => trivial, ?_⟩
    rw [Oper.semAt_eq _ _ _ hd, h2 w (Old.refl _ w)]
    exact hk
  · simp only [h1, Bool.false_eq_true, if_false]
    exact ⟨fun _ _ => trivial, hk⟩
theorem opIn_put {j : Nat} {oi oj : Oper} {v : Value} {K : Act → World → Prop} {a : Act} {w : World} (hj : ops[j]? = some oj) (hap : oi.apart ops oj = true) (hsj : ∀ cs b, oj.op ≠ .select cs b) (hdj : ∀ c, oj.op ≠ .defer c)
    (h : wpOpIn (FW r) 0 P ops NoQ j K (a.put oi.dst v) w) : wpOpIn (FW r) 0 P ops NoQ j (fun a' w' => But a a' oj.dst ∧ K (a'.put oi.dst v) w') a w := by
  obtain ⟨h1, h2, h3⟩ := Oper.apart_spec hap
  have com : ∀ (a : Act) u, (a.put oi.dst v).put oj.dst u = (a.put oj.dst u).put oi.dst v := fun a u => Act.put_comm a v u h2
  have but : ∀ u, But a (a.put oj.dst u) oj.dst := fun u => ⟨a.defers, u, rfl⟩
  unfold wpOpIn at *
  simp only [hj] at *
  rw [wanted_put oj a oi.dst v h1] at h
  split
  · rename_i hw
    simp only [hw, if_true] at h
    obtain ⟨_, h⟩ := h
    refine ⟨fun _ _ => trivial, ?_⟩
    rw [Oper.semAt_eq _ _ _ hdj] at h ⊢
    rw [execOp_put oj hsj a oi.dst v h1] at h
    generalize (execOp a.eval oj).run P w = res at *
    cases res with
    | ok n w' =>
      cases n <;> simp only [Oper.uponIn] at h ⊢
      case value u => exact ⟨but u, by rw [← com]; exact h⟩
      case skip => exact ⟨but undef, by rw [← com]; exact h⟩
      case defer d =>
        refine ⟨⟨d :: a.defers, undef, rfl⟩, ?_⟩
        rw [Act.put_defers] at h
        rw [← com]; exact h
      case enter f args =>
        exact ⟨h.1, CallsIn.mono h.2 fun e w'' he => by
          cases e with
          | returned u => exact ⟨but u, by rw [← com]; exact he⟩
          | panicked c => exact he
          | outgrown => exact he⟩
      case row row args => exact ⟨h.1, RowsIn.mono h.2 fun u w'' he => ⟨but u, by rw [← com]; exact he⟩⟩
      case round l f tmps as body =>
        exact ⟨h.1, RoundIn.mono h.2 fun e w'' he => by
          cases e with
          | returned u => exact ⟨but u, by rw [← com]; exact he⟩
          | panicked c => exact he
          | outgrown => exact he⟩
    | halt x w' => cases x <;> simp only [Oper.uponIn] at h ⊢ <;> exact h
  · rename_i hw
    simp only [hw] at h
    exact ⟨fun _ _ => trivial, but undef, by rw [← com]; exact h.2⟩
/-- The head of the region, in whatever order; 'E': what is asked where it is done. -/
def wpHead (r : Option Nat) (P : Program) (md : Region.Mode) (ops : Array Oper) (n : Nat) (E : Array Bool → Act → World → Prop) : Nat → Array Bool → Act → World → Prop
  | 0, listed, a, w => E listed a w
  | f + 1, listed, a, w => Region.ready md ops listed ≠ [] ∧ ∀ i ∈ Region.ready md ops listed, i < n ∧ wpOpIn (FW r) 0 P ops NoQ i (fun a' w' => Old Nil w w' ∧ wpHead r P md ops n E f (listed.setIfInBounds i true) a' w') a w
theorem opIn_Q {i : Nat} {K : Act → World → Prop} {Q : Exit → Act → World → Prop} {a : Act} {w : World} (h : wpOpIn (FW r) 0 P ops NoQ i K a w) : wpOpIn (FW r) 0 P ops Q i K a w := by
  unfold wpOpIn at *
  split
  · simpa [*] using h
  · rename_i o ho
    simp only [ho] at h
    split
    · rename_i hw
      simp only [hw, if_true] at h
      refine ⟨h.1, ?_⟩
      have h := h.2
      generalize (o.semAt (FW r).round a.eval).run P w = res at *
      cases res with
      | ok n w' =>
        cases n <;> simp only [Oper.uponIn] at h ⊢ <;>
          first
            | exact h
            | exact ⟨h.1, CallsIn.mono h.2 fun e w'' he => by cases e <;> first | exact he | exact absurd he (by simp [NoQ, LetsOut])⟩
            | exact ⟨h.1, RoundIn.mono h.2 fun e w'' he => by cases e <;> first | exact he | exact absurd he (by simp [NoQ, LetsOut])⟩
      | halt x w' => cases x <;> simp only [Oper.uponIn] at h ⊢ <;> first | exact h | exact h.elim
    · rename_i hw
      simp only [hw] at h
      exact h
theorem wpAny_of_head' {n g : Nat} {E : Array Bool → Act → World → Prop} {Q : Exit → Act → World → Prop} (hE : ∀ listed a w, E listed a w → wpAnyIn (FW r) 0 P md ops Q g listed a w) :
    ∀ (f : Nat) (listed : Array Bool) (a : Act) (w : World), wpHead r P md ops n E f listed a w → wpAnyIn (FW r) 0 P md ops Q (f + g) listed a w
  | 0, listed, a, w, h => by rw [Nat.zero_add]; exact hE _ _ _ h
  | f + 1, listed, a, w, h => by
    rw [show f + 1 + g = (f + g) + 1 by omega]
    exact ⟨fun h0 => absurd h0 h.1, fun i hi => opIn_Q (wpOpIn_mono (fun a' w' h' => wpAny_of_head' hE f _ a' w' h'.2) (h.2 i hi).2)⟩
def noDefer (ops : Array Oper) : Bool := ops.all fun o => match o.op with | .defer .. => false | _ => true
theorem noDefer_spec (h : noDefer ops = true) (j : Nat) (o : Oper) (c : Call) (ho : ops[j]? = some o) : o.op ≠ .defer c := by
  intro heq
  have := Array.all_eq_true_iff_forall_mem.1 h o (Array.mem_of_getElem? ho)
  simp [heq] at this
theorem wpHead_first {n i : Nat} {oi : Oper} {v : Value} {E : Array Bool → Act → World → Prop} (hi : ops[i]? = some oi) (hsel : Region.noSelect ops = true) (hdef : noDefer ops = true)
    (hs : Region.sinkB md ops n = true) (hc : Region.chainB md ops n = true) (hn : n < ops.size) (hin : i < n)
    (hdone : ∀ listed a w, E listed a w → ∀ j ∈ Region.ready md ops listed, n ≤ j) :
    ∀ (f : Nat) (listed : Array Bool) (a : Act) (w : World), HeadInv md ops n listed →
      (∀ j oj, ops[j]? = some oj → j ≠ i → listed.getD j true = false → (∀ e ∈ oj.after, Region.binds md e = true → e.on ≠ i) → oi.apart ops oj = true) →
      i ∈ Region.ready md ops listed → Yields' P ops oi v a w →
      wpHead r P md ops n E f (listed.setIfInBounds i true) (a.put oi.dst v) w → wpHead r P md ops n E (f + 1) listed a w := by
  intro f
  induction f with
  | zero =>
    intro listed a w inv _ hr hy H
    have hun := (mem_ready.1 hr).1
    refine ⟨fun h => (by rw [h] at hr; cases hr), fun j hj => ?_⟩
    have hjn : j < n := by
      rcases Nat.lt_or_ge j n with h | h
      · exact h
      · exact absurd hj (tail_waits hs hc hn inv _ i rfl hin hun j h)
    refine ⟨hjn, ?_⟩
    by_cases hji : j = i
    · subst hji; exact hy.opIn hi (fun c => noDefer_spec hdef j oi c hi) ⟨Old.refl _ w, H⟩
    · have := hdone _ _ _ H j (ready_mono hj hji)
      omega
  | succ f ih =>
    intro listed a w inv hfree hr hy H
    have hun := (mem_ready.1 hr).1
    refine ⟨fun h => (by rw [h] at hr; cases hr), fun j hj => ?_⟩
    have hjn : j < n := by
      rcases Nat.lt_or_ge j n with h | h
      · exact h
      · exact absurd hj (tail_waits hs hc hn inv _ i rfl hin hun j h)
    refine ⟨hjn, ?_⟩
    by_cases hji : j = i
    · subst hji; exact hy.opIn hi (fun c => noDefer_spec hdef j oi c hi) ⟨Old.refl _ w, H⟩
    · have h1 := (H.2 j (ready_mono hj hji)).2
      obtain ⟨hjun, oj, hoj, hall⟩ := mem_ready.1 hj
      have hnot : ∀ e ∈ oj.after, Region.binds md e = true → e.on ≠ i := fun e he hb heq => by
        have h1 := hall e he hb
        rw [heq, getD_both hun] at h1
        cases h1
      have hap := hfree j oj hoj hji hjun hnot
      have h2 := opIn_put hoj hap (fun cs b => Region.noSelect_spec hsel j oj cs b hoj) (fun c => noDefer_spec hdef j oj c hoj) h1
      have hfree' : ∀ k ok, ops[k]? = some ok → k ≠ i → (listed.setIfInBounds j true).getD k true = false →
          (∀ e ∈ ok.after, Region.binds md e = true → e.on ≠ i) → oi.apart ops ok = true := fun k ok hk hki hun hno => by
        refine hfree k ok hk hki ?_ hno
        by_cases hjk : j = k
        · subst hjk; exact hjun
        · rw [getD_set_ne true hjk] at hun; exact hun
      refine wpOpIn_mono (fun a' w' h3 => ⟨h3.2.1, ?_⟩) h2
      refine ih (listed.setIfInBounds j true) a' w' (inv.set hj hjn) hfree' (ready_mono hr (Ne.symm hji)) ((hy.but (fun cs b => Region.noSelect_spec hsel i oi cs b hi) h3.1 (Oper.apart_spec hap).2.2).later h3.2.1) ?_
      rw [Array.setIfInBounds_comm _ _ hji]
      exact h3.2.2
/-- A way through the head: what only looks; what makes memory, alone ready; two or three such that are ready together. -/
inductive Plan where
  | done
  | still (i : Nat) (p : Plan)
  | one (i : Nat) (p : Plan)
  | two (i : Nat) (p : Plan) (j : Nat) (q : Plan)
  | three (i : Nat) (p : Plan) (j : Nat) (q : Plan) (k : Nat) (s : Plan)
def Plan.len : Plan → Nat
  | .done => 0
  | .still _ p => p.len + 1
  | .one _ p => p.len + 1
  | .two _ p _ _ => p.len + 1
  | .three _ p _ _ _ _ => p.len + 1
def GoesOn (r : Option Nat) (P : Program) (ops : Array Oper) (T : Act → World → Prop) : Plan → Act → World → Prop
  | .done, a, w => T a w
  | .still i p, a, w => ∃ o v, ops[i]? = some o ∧ Yields' P ops o v a w ∧ GoesOn r P ops T p (a.put o.dst v) w
  | .one i p, a, w => wpOpIn (FW r) 0 P ops NoQ i (fun a' w' => Old Nil w w' ∧ GoesOn r P ops T p a' w') a w
  | .two i p j q, a, w => wpOpIn (FW r) 0 P ops NoQ i (fun a' w' => Old Nil w w' ∧ GoesOn r P ops T p a' w') a w ∧ wpOpIn (FW r) 0 P ops NoQ j (fun a' w' => Old Nil w w' ∧ GoesOn r P ops T q a' w') a w
  | .three i p j q k s, a, w => wpOpIn (FW r) 0 P ops NoQ i (fun a' w' => Old Nil w w' ∧ GoesOn r P ops T p a' w') a w ∧ wpOpIn (FW r) 0 P ops NoQ j (fun a' w' => Old Nil w w' ∧ GoesOn r P ops T q a' w') a w ∧ wpOpIn (FW r) 0 P ops NoQ k (fun a' w' => Old Nil w w' ∧ GoesOn r P ops T s a' w') a w
def lexG (md : Region.Mode) (ops : Array Oper) (n g : Nat) : Plan → Array Bool → Bool
  | .done, listed => Region.seqB md ops g n listed
  | .still k π, listed => (Region.ready md ops listed).contains k && Region.free md ops listed k && Nat.blt k n && lexG md ops n g π (listed.setIfInBounds k true)
  | .one k π, listed => decide (Region.ready md ops listed = [k]) && Nat.blt k n && lexG md ops n g π (listed.setIfInBounds k true)
  | .two i p j q, listed => decide (Region.ready md ops listed = [i, j]) && Nat.blt i n && Nat.blt j n && Nat.beq p.len q.len && lexG md ops n g p (listed.setIfInBounds i true) && lexG md ops n g q (listed.setIfInBounds j true)
  | .three i p j q k s, listed => decide (Region.ready md ops listed = [i, j, k]) && Nat.blt i n && Nat.blt j n && Nat.blt k n && Nat.beq p.len q.len && Nat.beq p.len s.len && lexG md ops n g p (listed.setIfInBounds i true) && lexG md ops n g q (listed.setIfInBounds j true) && lexG md ops n g s (listed.setIfInBounds k true)
theorem wpHead_of_goes {n g : Nat} {T : Act → World → Prop} (hsel : Region.noSelect ops = true) (hdef : noDefer ops = true) (hs : Region.sinkB md ops n = true) (hc : Region.chainB md ops n = true) (hn : n < ops.size) :
    ∀ (π : Plan) (listed : Array Bool) (a : Act) (w : World), HeadInv md ops n listed → lexG md ops n g π listed = true → GoesOn r P ops T π a w →
    wpHead r P md ops n (fun listed' a' w' => Region.seqB md ops g n listed' = true ∧ T a' w') π.len listed a w
  | .done, listed, a, w, _, hB, h => ⟨hB, h⟩
  | .still k π, listed, a, w, inv, hB, h => by
    simp only [lexG, Bool.and_eq_true] at hB
    obtain ⟨⟨⟨hr, hf⟩, hkn⟩, hB'⟩ := hB
    have hkn' : k < n := by simpa using hkn
    obtain ⟨o, v, ho, hy, hK⟩ := h
    have hr' : k ∈ Region.ready md ops listed := by simpa using hr
    exact wpHead_first ho hsel hdef hs hc hn hkn' (fun listed' a' w' hL => seqB_ready hL.1) π.len listed a w inv (Region.free_spec ho hf) hr' hy
      (wpHead_of_goes hsel hdef hs hc hn π _ _ _ (inv.set hr' hkn') hB' hK)
  | .one k π, listed, a, w, inv, hB, h => by
    simp only [lexG, Bool.and_eq_true, decide_eq_true_eq] at hB
    obtain ⟨⟨hr, hkn⟩, hB'⟩ := hB
    have hkn' : k < n := by simpa using hkn
    refine ⟨by rw [hr]; simp, fun i hi => ?_⟩
    rw [hr] at hi
    have hik : i = k := by simpa using hi
    subst hik
    exact ⟨hkn', wpOpIn_mono (fun a' w' h3 => ⟨h3.1, wpHead_of_goes hsel hdef hs hc hn π _ _ _ (inv.set (by rw [hr]; simp) hkn') hB' h3.2⟩) h⟩
  | .two k p l q, listed, a, w, inv, hB, h => by
    simp only [lexG, Bool.and_eq_true, decide_eq_true_eq] at hB
    obtain ⟨⟨⟨⟨⟨hr, hkn⟩, hln⟩, hlen⟩, hB1⟩, hB2⟩ := hB
    have hlen' : p.len = q.len := Nat.eq_of_beq_eq_true hlen
    have hkn' : k < n := by simpa using hkn
    have hln' : l < n := by simpa using hln
    refine ⟨by rw [hr]; simp, fun i hi => ?_⟩
    rw [hr] at hi
    have hik : i = k ∨ i = l := by simpa using hi
    rcases hik with rfl | rfl
    · exact ⟨hkn', wpOpIn_mono (fun a' w' h3 => ⟨h3.1, wpHead_of_goes hsel hdef hs hc hn p _ _ _ (inv.set (by rw [hr]; simp) hkn') hB1 h3.2⟩) h.1⟩
    · exact ⟨hln', wpOpIn_mono (fun a' w' h3 => ⟨h3.1, by
        show wpHead _ _ _ _ _ _ p.len _ _ _
        rw [hlen']; exact wpHead_of_goes hsel hdef hs hc hn q _ _ _ (inv.set (by rw [hr]; simp) hln') hB2 h3.2⟩) h.2⟩
  | .three k p l q m s, listed, a, w, inv, hB, h => by
    simp only [lexG, Bool.and_eq_true, decide_eq_true_eq] at hB
    obtain ⟨⟨⟨⟨⟨⟨⟨⟨hr, hkn⟩, hln⟩, hmn⟩, hlen⟩, hlen2⟩, hB1⟩, hB2⟩, hB3⟩ := hB
    have hlen' : p.len = q.len := Nat.eq_of_beq_eq_true hlen
    have hlen2' : p.len = s.len := Nat.eq_of_beq_eq_true hlen2
    have hkn' : k < n := by simpa using hkn
    have hln' : l < n := by simpa using hln
    have hmn' : m < n := by simpa using hmn
    refine ⟨by rw [hr]; simp, fun i hi => ?_⟩
    rw [hr] at hi
    have hik : i = k ∨ i = l ∨ i = m := by simpa using hi
    rcases hik with rfl | rfl | rfl
    · exact ⟨hkn', wpOpIn_mono (fun a' w' h3 => ⟨h3.1, wpHead_of_goes hsel hdef hs hc hn p _ _ _ (inv.set (by rw [hr]; simp) hkn') hB1 h3.2⟩) h.1⟩
    · exact ⟨hln', wpOpIn_mono (fun a' w' h3 => ⟨h3.1, by
        show wpHead _ _ _ _ _ _ p.len _ _ _
        rw [hlen']; exact wpHead_of_goes hsel hdef hs hc hn q _ _ _ (inv.set (by rw [hr]; simp) hln') hB2 h3.2⟩) h.2.1⟩
    · exact ⟨hmn', wpOpIn_mono (fun a' w' h3 => ⟨h3.1, by
        show wpHead _ _ _ _ _ _ p.len _ _ _
        rw [hlen2']; exact wpHead_of_goes hsel hdef hs hc hn s _ _ _ (inv.set (by rw [hr]; simp) hmn') hB3 h3.2⟩) h.2.2⟩
theorem wpAny_of_seq' {Q : Exit → Act → World → Prop} : ∀ (l : List Oper) (k : Nat) (listed : Array Bool) (a : Act) (w : World), (∀ j, l[j]? = ops[k + j]?) →
    Region.seqB md ops l.length k listed = true → wpListIn (FW r) 0 P ops Q l a w → wpAnyIn (FW r) 0 P md ops Q l.length listed a w
  | [], k, listed, a, w, _, hB, h => ⟨by simpa [Region.seqB] using hB, h⟩
  | o :: l, k, listed, a, w, hl, hB, h => by
    have h0 : ops[k]? = some o := by simpa using (hl 0).symm
    simp only [List.length_cons, Region.seqB, Bool.and_eq_true, decide_eq_true_eq] at hB
    refine ⟨fun h1 => (by rw [hB.1] at h1; cases h1), fun i hi => ?_⟩
    rw [hB.1] at hi
    have hik : i = k := by simpa using hi
    subst hik
    have hw : wpOpIn (FW r) 0 P ops Q i (wpListIn (FW r) 0 P ops Q l) a w := by unfold wpOpIn; simp only [h0]; exact h
    exact wpOpIn_mono (fun a' w' h' => wpAny_of_seq' l (i + 1) _ a' w' (fun j => by have := hl (j + 1); simpa [Nat.add_assoc, Nat.add_comm 1 j] using this) hB.2 h') hw
/-- All checks of a region with a head of n operations, taken in the order π. -/
def drawB (ops : Array Oper) (n : Nat) (π : Plan) : Bool :=
  Region.noSelect ops && noDefer ops && Nat.blt n ops.size && Region.sinkB .any ops n && Region.chainB .any ops n && Nat.beq π.len n && lexG .any ops n (ops.size - n) π (Array.replicate ops.size false)
theorem wpIn_draw {id : Nat} {Q : Exit → Act → World → Prop} {a : Act} {w : World} {l : List Oper} (n : Nat) (π : Plan) (hm : P.follows .mixedOrders = true) (hB : drawB l.toArray n π = true)
    (h : GoesOn r P l.toArray (fun a' w' => wpListIn (FW r) 0 P l.toArray Q (l.drop n) a' w') π a w.drew) : (Code.region id l.toArray true).wpIn (FW r) 0 P Q a w := by
  simp only [drawB, Bool.and_eq_true] at hB
  obtain ⟨⟨⟨⟨⟨⟨hsel, hdef⟩, hn⟩, hs⟩, hc⟩, hlen⟩, hlex⟩ := hB
  have hn' : n < l.length := by simpa using hn
  have hpl : π.len = n := Nat.eq_of_beq_eq_true hlen
  have hdl : (l.drop n).length = l.toArray.size - n := by simp
  have inv0 : HeadInv .any l.toArray n (Array.replicate l.toArray.size false) :=
    ⟨by simp, fun j oj _ hl => (by rw [getD_replicate_false] at hl; cases hl), fun t _ ht => getD_in (by simpa using ht) (getD_replicate_false _ _)⟩
  have H := wpHead_of_goes (r := r) (P := P) (md := .any) (g := l.toArray.size - n) hsel hdef hs hc (by simpa using hn') π _ a w.drew inv0 hlex h
  refine wpIn_region_any hm ?_
  have := wpAny_of_head' (Q := Q) (g := l.toArray.size - n) (fun listed a' w' hL => by
    have := wpAny_of_seq' (r := r) (P := P) (md := .any) (Q := Q) (l.drop n) n listed a' w' (fun j => by simp [List.getElem?_drop]) (by rw [hdl]; exact hL.1) hL.2
    rwa [hdl] at this) _ _ _ _ H
  rw [hpl, show n + (l.toArray.size - n) = l.toArray.size by simp; omega] at this
  exact this
end draw
/-! ### The same over frames and heaplets -/
def RunG (C : Cx) (ops : Array Oper) (T : Act → World → Prop) (π : Plan) (F : Fr) (L : List HL) : Prop := ∀ a w, Ok C F L a w → GoesOn C.r C.P ops T π a w
section
variable {C : Cx} {Q : Exit → Act → World → Prop} {F : Fr} {L : List HL} {ops : Array Oper} {o : Oper} {T : Act → World → Prop} {π : Plan} {i : Nat}
theorem RunC.draw {id : Nat} {l : List Oper} (n : Nat) (π : Plan) (hm : C.P.follows .mixedOrders = true) (hB : drawB l.toArray n π = true)
    (h : RunG C l.toArray (fun a' w' => wpListIn (FW C.r) 0 C.P l.toArray Q (l.drop n) a' w') π F L) : RunC C (.region id l.toArray true) Q F L := fun a w ok => wpIn_draw n π hm hB (h a w.drew ⟨ok.fr, ok.sym.drew⟩)
theorem RunG.done {l : List Oper} (h : RunL C ops Q l F L) : RunG C ops (fun a' w' => wpListIn (FW C.r) 0 C.P ops Q l a' w') .done F L := h
theorem RunG.still {d : Nat} {v : Value} (ho : ops[i]? = some o) (hw : wants ops F o = some true) (hd : o.dst = some d) (hn : Nat.blt d C.n = true) (hs : Still C o F L v) (h : RunG C ops T π ((d, v) :: F) L) : RunG C ops T (.still i π) F L := fun a w ok => by
  refine ⟨o, v, ho, .inl ⟨wants_ok ok hw, fun w' hold => hs.2 a w' ⟨ok.fr, ok.sym.grow0 hold⟩⟩, h _ w ?_⟩
  rw [hd]
  exact ⟨ok.fr.put (by simpa using hn) v, ok.sym⟩
theorem RunG.off {d : Nat} (ho : ops[i]? = some o) (hw : wants ops F o = some false) (hd : o.dst = some d) (hn : Nat.blt d C.n = true) (h : RunG C ops T π ((d, undef) :: F) L) : RunG C ops T (.still i π) F L := fun a w ok => by
  refine ⟨o, undef, ho, .inr ⟨wants_ok ok hw, rfl⟩, h _ w ?_⟩
  rw [hd]
  exact ⟨ok.fr.put (by simpa using hn) _, ok.sym⟩
/-- A guarded call that is not made (it is no looking operation, but it is off). -/
theorem RunG.off' {d : Nat} (ho : ops[i]? = some o) (hw : wants ops F o = some false) (hd : o.dst = some d) (hn : Nat.blt d C.n = true) (h : RunG C ops T π ((d, undef) :: F) L) : RunG C ops T (.one i π) F L := fun a w ok => by
  show wpOpIn _ _ _ _ _ _ _ _ _
  unfold wpOpIn
  simp only [ho, wants_ok ok hw, Bool.false_eq_true, if_false]
  refine ⟨fun _ _ => trivial, Old.refl _ w, h _ w ?_⟩
  rw [hd]
  exact ⟨ok.fr.put (by simpa using hn) _, ok.sym⟩
theorem RunG.grows {d : Nat} {γ : Type} {φ : γ → Prop} {V : γ → Value} {H : γ → List HL} (ho : ops[i]? = some o) (hw : wants ops F o = some true) (hd : o.dst = some d) (hn : Nat.blt d C.n = true) (hg : Grows C o F L φ V H)
    (h : ∀ g, φ g → RunG C ops T π ((d, V g) :: F) (H g ++ L)) : RunG C ops T (.one i π) F L := fun a w ok => by
  show wpOpIn _ _ _ _ _ _ _ _ _
  unfold wpOpIn
  simp only [ho, wants_ok ok hw, if_true]
  refine hg a w ok _ _ (fun g w' hφ hold hs => ⟨hold, h g hφ _ w' ?_⟩)
  rw [hd]
  exact ⟨ok.fr.put (by simpa using hn) _, hs⟩
theorem RunG.two {i j : Nat} {p q : Plan} (h1 : RunG C ops T (.one i p) F L) (h2 : RunG C ops T (.one j q) F L) : RunG C ops T (.two i p j q) F L := fun a w ok => ⟨h1 a w ok, h2 a w ok⟩
theorem RunG.three {i j k : Nat} {p q s : Plan} (h1 : RunG C ops T (.one i p) F L) (h2 : RunG C ops T (.one j q) F L) (h3 : RunG C ops T (.one k s) F L) : RunG C ops T (.three i p j q k s) F L := fun a w ok => ⟨h1 a w ok, h2 a w ok, h3 a w ok⟩
theorem RunG.split {t : Nat} {b : Bool} (hb : F.get t = some (.bool b)) (h1 : b = true → RunG C ops T π ((t, .bool true) :: F) L) (h2 : b = false → RunG C ops T π ((t, .bool false) :: F) L) : RunG C ops T π F L := fun a w ok => by
  cases hbb : b
  · exact h2 hbb a w (ok.decide hb hbb)
  · exact h1 hbb a w (ok.decide hb hbb)
end
end Go.V
