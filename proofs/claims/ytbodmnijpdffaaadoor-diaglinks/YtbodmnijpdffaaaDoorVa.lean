/- The proof layer, part a: frames as association lists, memory as a list of heaplets. -/
import Derived.WalkKit
import Derived.RangeFuncIn
import Derived.RangeFuncRecord
import Derived.OrdersIn
namespace Go.V
open Go

/-- The fence that lets everything in; 'r': the round in which the code runs. -/
def FW (r : Option Nat) : Fence := { fn := fun _ => True, depth := none, alive := false, round := r }
theorem FW_room (r : Option Nat) (n : Nat) : (FW r).room n := fun _ h => by simp [FW] at h
theorem callsFW {r : Option Nat} {n : Nat} {P : Program} {f : FuncId} {args : Array Value} {w : World} {R : Ending → World → Prop} :
    CallsIn (FW r) n P f args w R ↔ Calls P f args w R := by
  have e : CallsIn (FW r) n P f args w R ↔ CallsIn Fence.wide n P f args w R := Iff.rfl
  exact e.trans callsIn_wide

/-! ### Frames -/
abbrev Fr := List (Nat × Value)
def Fr.get : Fr → Nat → Option Value
  | [], _ => none
  | (k, v) :: r, t => bif Nat.beq k t then some v else Fr.get r t
def Fr.ev (F : Fr) : Operand → Option Value
  | .tmp t => F.get t
  | .const v => some v
  | .global g => some (.pointer (some ⟨g, 0, none⟩))
  | .func f => some (.func (.func f) #[] #[])
/-- The frame 'a' has 'n' slots, the deferred calls 'D', and holds what 'F' says. -/
structure At (n : Nat) (D : List Deferred) (F : Fr) (a : Act) : Prop where
  size : a.tmps.size = n
  defers : a.defers = D
  slot : ∀ t v, F.get t = some v → a.tmps[t]? = some v
theorem At.ev {n : Nat} {D : List Deferred} {F : Fr} {a : Act} (h : At n D F a) {x : Operand} {v : Value} (hx : F.ev x = some v) : a.eval x = v := by
  cases x with
  | tmp t => simp only [Fr.ev] at hx; have := h.slot t v hx; simp [Act.eval, Array.getD_eq_getD_getElem?, this]
  | const u => simpa [Fr.ev, Act.eval] using hx
  | global g => simpa [Fr.ev, Act.eval] using hx
  | func f => simpa [Fr.ev, Act.eval] using hx
theorem Fr.get_cons (F : Fr) (k t : Nat) (v : Value) : Fr.get ((k, v) :: F) t = if k = t then some v else F.get t := by
  simp only [Fr.get]
  by_cases h : k = t
  · subst h; simp
  · have : Nat.beq k t = false := Bool.eq_false_iff.2 (fun e => h (Nat.eq_of_beq_eq_true e))
    simp [this, h]
theorem At.put {n : Nat} {D : List Deferred} {F : Fr} {a : Act} (h : At n D F a) {d : Nat} (hd : d < n) (v : Value) : At n D ((d, v) :: F) (a.put (some d) v) := by
  refine ⟨by simp [Act.put, h.size], by simp [Act.put, h.defers], fun t u hu => ?_⟩
  rw [Fr.get_cons] at hu
  by_cases e : d = t
  · subst e
    rw [if_pos rfl] at hu
    have hs : d < a.tmps.size := by rw [h.size]; exact hd
    simp only [Act.put, Array.getElem?_setIfInBounds_self_of_lt hs]
    exact hu
  · rw [if_neg e] at hu
    simp only [Act.put]
    rw [Array.getElem?_setIfInBounds_ne e]
    exact h.slot t u hu
theorem At.put_none {n : Nat} {D : List Deferred} {F : Fr} {a : Act} (h : At n D F a) (v : Value) : At n D F (a.put none v) := h
/-- A put that is not recorded (in an unknown slot: forget the slot). -/
def Fr.forget (ts : List Nat) : Fr → Fr
  | [] => []
  | (k, v) :: r => bif ts.elem k then Fr.forget ts r else (k, v) :: Fr.forget ts r
theorem Fr.get_forget (ts : List Nat) (F : Fr) (t : Nat) : (F.forget ts).get t = if t ∈ ts then none else F.get t := by
  induction F with
  | nil => simp [Fr.forget, Fr.get]
  | cons p r ih =>
    obtain ⟨k, v⟩ := p
    simp only [Fr.forget]
    by_cases hk : k ∈ ts
    · have : ts.elem k = true := by simpa using hk
      rw [this, cond_true, ih, Fr.get_cons]
      by_cases e : k = t
      · subst e; simp [hk]
      · simp [e]
    · have : ts.elem k = false := by simpa using hk
      rw [this, cond_false, Fr.get_cons, Fr.get_cons, ih]
      by_cases e : k = t
      · subst e; simp [hk]
      · simp [e]
/-- 'F' says no more than 'F''. -/
def Fr.Sub (F F' : Fr) : Prop := ∀ t v, F.get t = some v → F'.get t = some v
theorem Fr.Sub.refl (F : Fr) : F.Sub F := fun _ _ h => h
theorem Fr.Sub.trans {F F' F'' : Fr} (h : F.Sub F') (h' : F'.Sub F'') : F.Sub F'' := fun t v k => h' t v (h t v k)
theorem Fr.Sub.nil (F : Fr) : Fr.Sub [] F := fun _ _ h => by simp [Fr.get] at h
theorem Fr.Sub.cons {F F' : Fr} {t : Nat} {v : Value} (h : F'.get t = some v) (hs : Fr.Sub F F') : Fr.Sub ((t, v) :: F) F' := fun s u hu => by
  rw [Fr.get_cons] at hu
  by_cases e : t = s
  · subst e; rw [if_pos rfl] at hu; exact h.trans hu
  · rw [if_neg e] at hu; exact hs s u hu
theorem Fr.Sub.forget (ts : List Nat) (F : Fr) : Fr.Sub (F.forget ts) F := fun t v h => by
  rw [Fr.get_forget] at h
  by_cases e : t ∈ ts
  · simp [e] at h
  · simpa [e] using h
/-- Slots that are written anew do not disturb what is said of the others. -/
theorem Fr.Sub.skip {F F' : Fr} {ts : List Nat} {t : Nat} {v : Value} (ht : t ∈ ts) (h : Fr.Sub (F.forget ts) F') : Fr.Sub (F.forget ts) ((t, v) :: F') := fun s u hu => by
  have h1 := h s u hu
  rw [Fr.get_forget] at hu
  rw [Fr.get_cons]
  by_cases e : t = s
  · subst e; simp [ht] at hu
  · rw [if_neg e]; exact h1
theorem Fr.Sub.skips {F F' : Fr} {ts : List Nat} : ∀ (es : Fr), es.all (fun p => ts.elem p.1) = true → Fr.Sub (F.forget ts) F' → Fr.Sub (F.forget ts) (es ++ F')
  | [], _, h => h
  | (k, v) :: r, hb, h => by
    simp only [List.all_cons, Bool.and_eq_true] at hb
    exact Fr.Sub.skip (by simpa using hb.1) (Fr.Sub.skips r hb.2 h)
theorem At.sub {n : Nat} {D : List Deferred} {F F' : Fr} {a : Act} (h : At n D F' a) (hs : F.Sub F') : At n D F a := ⟨h.size, h.defers, fun t v k => h.slot t v (hs t v k)⟩

/-! ### Memory -/
/-- Outside 'S' what lay in 'w0' lies in 'w' as it lay. -/
structure Old (S : Nat → Prop) (w0 w : World) : Prop where
  os : w.os = w0.os
  tape : w.tape = w0.tape
  output : w.output = w0.output
  size : w0.heap.size ≤ w.heap.size
  block : ∀ k, k < w0.heap.size → ¬ S k → w.heap[k]? = w0.heap[k]?
abbrev Nil : Nat → Prop := fun _ => False
theorem Old.refl (S : Nat → Prop) (w : World) : Old S w w := ⟨rfl, rfl, rfl, Nat.le_refl _, fun _ _ _ => rfl⟩
theorem Old.trans {S : Nat → Prop} {a b c : World} (h : Old S a b) (k : Old S b c) : Old S a c :=
  ⟨k.os.trans h.os, k.tape.trans h.tape, k.output.trans h.output, Nat.le_trans h.size k.size,
   fun i hi hs => (k.block i (Nat.lt_of_lt_of_le hi h.size) hs).trans (h.block i hi hs)⟩
theorem Old.mono {S S' : Nat → Prop} {a b : World} (h : Old S a b) (hs : ∀ k, k < a.heap.size → S k → S' k) : Old S' a b :=
  ⟨h.os, h.tape, h.output, h.size, fun i hi hn => h.block i hi (fun hk => hn (hs i hi hk))⟩
/-- A later step that may turn 'S'', all of it new or in 'S'. -/
theorem Old.step {S S' : Nat → Prop} {a b c : World} (h : Old S a b) (k : Old S' b c) (hs : ∀ i, i < a.heap.size → S' i → S i) : Old S a c :=
  ⟨k.os.trans h.os, k.tape.trans h.tape, k.output.trans h.output, Nat.le_trans h.size k.size,
   fun i hi hn => (k.block i (Nat.lt_of_lt_of_le hi h.size) (fun x => hn (hs i hi x))).trans (h.block i hi hn)⟩
theorem Old.cell {S : Nat → Prop} {w0 w : World} (h : Old S w0 w) {a : Addr} {v : Value} (hc : w0.cell? a = some v) (hs : ¬ S a.block) : w.cell? a = some v :=
  (World.cell?_of_block (h.block a.block (World.block_lt_of_cell? w0 a hc) hs)).trans hc
theorem Old.below {w0 w : World} (h : Old Nil w0 w) : RowKit.Below w0.heap.size w0 w := ⟨h.os, h.tape, h.output, h.size, fun k hk => h.block k hk (fun x => x)⟩
theorem Old.of_below {w0 w : World} (h : RowKit.Below w0.heap.size w0 w) : Old Nil w0 w := ⟨h.os, h.tape, h.output, h.size, fun k hk _ => h.block k hk⟩
theorem heap_alloc_lt (w : World) (o : Obj) (k : Nat) (h : k < w.heap.size) : (w.alloc o).heap[k]? = w.heap[k]? := RowKit.Below.heap_alloc w o k h
theorem heap_alloc_new (w : World) (o : Obj) : (w.alloc o).heap[w.heap.size]? = some o := World.alloc_heap_new w o
theorem Old.alloc (S : Nat → Prop) (w : World) (o : Obj) : Old S w (w.alloc o) := ⟨rfl, rfl, rfl, by simp, fun k hk _ => heap_alloc_lt w o k hk⟩
theorem Old.drew (S : Nat → Prop) (w : World) : Old S w w.drew := ⟨rfl, rfl, rfl, Nat.le_refl _, fun _ _ _ => rfl⟩

/-- A heaplet: the blocks that it speaks of, what it says; it says nothing of other blocks. -/
structure HL where
  supp : Nat → Prop
  holds : World → Prop
  loc : ∀ w w', (∀ b, supp b → w'.heap[b]? = w.heap[b]?) → holds w → holds w'
/-- Block 'b' is the object 'o'. -/
def HL.obj (b : Nat) (o : Obj) : HL := ⟨fun k => k = b, fun w => w.heap[b]? = some o, fun _ _ h hh => (h b rfl).trans hh⟩
/-- Nothing. -/
def HL.emp : HL := ⟨fun _ => False, fun _ => True, fun _ _ _ h => h⟩
def HL.star (h k : HL) : HL := ⟨fun b => h.supp b ∨ k.supp b, fun w => h.holds w ∧ k.holds w ∧ ∀ b, h.supp b → ¬ k.supp b,
  fun w w' hs hh => ⟨h.loc w w' (fun b hb => hs b (.inl hb)) hh.1, k.loc w w' (fun b hb => hs b (.inr hb)) hh.2.1, hh.2.2⟩⟩
/-- The memory 'w', which began as 'w0': outside S what lay lies; the heaplets hold, apart from each other, in S or in what is new. -/
structure Sym (w0 : World) (S : Nat → Prop) (L : List HL) (w : World) : Prop where
  old : Old S w0 w
  holds : ∀ h ∈ L, h.holds w
  supp : ∀ h ∈ L, ∀ b, h.supp b → b < w.heap.size ∧ (w0.heap.size ≤ b ∨ S b)
  apart : L.Pairwise fun h k => ∀ b, h.supp b → ¬ k.supp b
theorem Sym.nil (w : World) (S : Nat → Prop) : Sym w S [] w := ⟨Old.refl S w, fun h hh => (by cases hh), fun h hh => (by cases hh), List.Pairwise.nil⟩
theorem Sym.at {w0 w : World} {S : Nat → Prop} {L : List HL} (hs : Sym w0 S L w) {i : Nat} {h : HL} (hi : L[i]? = some h) : h.holds w := hs.holds h (List.mem_of_getElem? hi)
theorem Sym.lt {w0 w : World} {S : Nat → Prop} {L : List HL} (hs : Sym w0 S L w) {i : Nat} {b : Nat} {o : Obj} (hi : L[i]? = some (HL.obj b o)) : b < w.heap.size :=
  (hs.supp _ (List.mem_of_getElem? hi) b rfl).1
theorem Sym.base {w0 w : World} {S : Nat → Prop} {L : List HL} (hs : Sym w0 S L w) {a : Addr} {v : Value} (hc : w0.cell? a = some v) (hn : ¬ S a.block) : w.cell? a = some v := hs.old.cell hc hn
theorem cell_of_obj {w : World} {b k : Nat} {cs : Array Value} {t : TypeId} {fz : Nat × Nat} {v : Value} (h : w.heap[b]? = some (.cells cs t fz)) (hk : cs[k]? = some v) : w.cell? ⟨b, k, none⟩ = some v := by
  simp [World.cell?, h, hk]
/-- Nothing that is said turns: new blocks beside. -/
theorem Sym.grow {w0 w w' : World} {S : Nat → Prop} {L H : List HL} (hs : Sym w0 S L w) (ho : Old Nil w w')
    (hh : ∀ h ∈ H, h.holds w') (hsupp : ∀ h ∈ H, ∀ b, h.supp b → w.heap.size ≤ b ∧ b < w'.heap.size) (hap : H.Pairwise fun h k => ∀ b, h.supp b → ¬ k.supp b) : Sym w0 S (H ++ L) w' := by
  refine ⟨hs.old.step ho (fun _ _ x => x.elim), fun h hm => ?_, fun h hm b hb => ?_, ?_⟩
  · rcases List.mem_append.1 hm with hm | hm
    · exact hh h hm
    · exact h.loc w w' (fun b hb => ho.block b (hs.supp h hm b hb).1 (fun x => x)) (hs.holds h hm)
  · rcases List.mem_append.1 hm with hm | hm
    · have := hsupp h hm b hb
      have := hs.old.size
      exact ⟨by omega, .inl (by omega)⟩
    · have := hs.supp h hm b hb
      have := ho.size
      exact ⟨by omega, (hs.supp h hm b hb).2⟩
  · refine List.pairwise_append.2 ⟨hap, hs.apart, fun h hm k km b hb kb => ?_⟩
    have := hsupp h hm b hb
    have := hs.supp k km b kb
    omega
theorem Sym.grow0 {w0 w w' : World} {S : Nat → Prop} {L : List HL} (hs : Sym w0 S L w) (ho : Old Nil w w') : Sym w0 S L w' := by
  have := hs.grow (H := []) ho (fun h hh => (by cases hh)) (fun h hh => (by cases hh)) List.Pairwise.nil
  simpa using this
theorem Sym.alloc {w0 w : World} {S : Nat → Prop} {L : List HL} (hs : Sym w0 S L w) (o : Obj) : Sym w0 S (HL.obj w.heap.size o :: L) (w.alloc o) :=
  hs.grow (H := [HL.obj w.heap.size o]) (Old.alloc Nil w o) (fun h hm => by rcases List.mem_singleton.1 hm with rfl; exact heap_alloc_new w o)
    (fun h hm b hb => by rcases List.mem_singleton.1 hm with rfl; cases hb; simp) (List.pairwise_singleton _ _)
theorem Sym.drew {w0 w : World} {S : Nat → Prop} {L : List HL} (hs : Sym w0 S L w) : Sym w0 S L w.drew := hs.grow0 (Old.drew Nil w)
/-- Heaplet i is turned into another one, over its blocks or over new ones; nothing else turns. -/
theorem Sym.turn {w0 w w' : World} {S : Nat → Prop} {L : List HL} (hs : Sym w0 S L w) {i : Nat} {h h' : HL} (hi : L[i]? = some h) (hsup : ∀ b, h'.supp b → (h.supp b ∨ w.heap.size ≤ b) ∧ b < w'.heap.size)
    (ho : Old h.supp w w') (hh : h'.holds w') : Sym w0 S (L.set i h') w' := by
  have him : h ∈ L := List.mem_of_getElem? hi
  obtain ⟨hlt, hget⟩ := List.getElem?_eq_some_iff.1 hi
  have key : ∀ k ∈ L.set i h', k = h' ∨ (k ∈ L ∧ ∀ b, h.supp b → ¬ k.supp b) := by
    intro k hk
    obtain ⟨j, hj, hjk⟩ := List.getElem_of_mem hk
    rw [List.length_set] at hj
    by_cases e : i = j
    · subst e; left; rw [← hjk, List.getElem_set_self]
    · right
      rw [List.getElem_set_ne e] at hjk
      refine ⟨hjk ▸ List.getElem_mem hj, fun b hb kb => ?_⟩
      have hp := List.pairwise_iff_getElem.1 hs.apart
      rcases Nat.lt_or_gt_of_ne e with hlt' | hgt'
      · exact hp i j hlt hj hlt' b (hget.symm ▸ hb) (hjk ▸ kb)
      · exact hp j i hj hlt hgt' b (hjk ▸ kb) (hget.symm ▸ hb)
  refine ⟨hs.old.step ho (fun k hk hk' => ?_), fun k hk => ?_, fun k hk b hb => ?_, ?_⟩
  · rcases (hs.supp h him k hk').2 with hx | hx
    · omega
    · exact hx
  · rcases key k hk with rfl | ⟨hm, hd⟩
    · exact hh
    · exact k.loc w w' (fun b hb => ho.block b (hs.supp k hm b hb).1 (fun x => hd b x hb)) (hs.holds k hm)
  · have hz := ho.size
    have hz0 := hs.old.size
    rcases key k hk with rfl | ⟨hm, _⟩
    · obtain ⟨h1, h2⟩ := hsup b hb
      rcases h1 with h1 | h1
      · exact ⟨h2, (hs.supp h him b h1).2⟩
      · exact ⟨h2, .inl (by omega)⟩
    · have h1 := hs.supp k hm b hb; exact ⟨by omega, h1.2⟩
  · refine List.pairwise_iff_getElem.2 (fun p q hp hq hpq b hb kb => ?_)
    have hpw := List.pairwise_iff_getElem.1 hs.apart
    rw [List.length_set] at hp hq
    by_cases e : i = p
    · subst e
      rw [List.getElem_set_self] at hb
      rw [List.getElem_set_ne (by omega)] at kb
      rcases (hsup b hb).1 with h1 | h1
      · exact hpw i q hp hq hpq b (hget.symm ▸ h1) kb
      · have := (hs.supp _ (List.getElem_mem hq) b kb).1; omega
    · rw [List.getElem_set_ne e] at hb
      by_cases e' : i = q
      · subst e'
        rw [List.getElem_set_self] at kb
        rcases (hsup b kb).1 with h1 | h1
        · exact hpw p i hp hq hpq b hb (hget.symm ▸ h1)
        · have := (hs.supp _ (List.getElem_mem hp) b hb).1; omega
      · rw [List.getElem_set_ne e'] at kb
        exact hpw p q hp hq hpq b hb kb
theorem heap_setCell {w : World} {b k : Nat} {cs : Array Value} {t : TypeId} {fz : Nat × Nat} (h : w.heap[b]? = some (.cells cs t fz)) (v : Value) :
    (w.setCell ⟨b, k, none⟩ v).heap[b]? = some (.cells (cs.setIfInBounds k v) t fz) := by
  simp [World.setCell, Array.getElem?_modify, h]
theorem Old.setCell {S : Nat → Prop} (w : World) (a : Addr) (v : Value) (hS : S a.block) : Old S w (w.setCell a v) :=
  ⟨rfl, rfl, rfl, by simp, fun k _ hk => RowKit.Below.heap_setCell w a v k (fun e => hk (by subst e; exact hS))⟩
theorem Sym.setCell {w0 w : World} {S : Nat → Prop} {L : List HL} (hs : Sym w0 S L w) {i b k : Nat} {cs : Array Value} {t : TypeId} {fz : Nat × Nat} (hi : L[i]? = some (HL.obj b (.cells cs t fz))) (v : Value) :
    Sym w0 S (L.set i (HL.obj b (.cells (cs.setIfInBounds k v) t fz))) (w.setCell ⟨b, k, none⟩ v) :=
  hs.turn hi (fun c h => ⟨.inl h, by have e : c = b := h; subst e; have := hs.lt hi; simpa using this⟩) (Old.setCell w _ v rfl) (heap_setCell (hs.at hi) v)
/-- What is said is forgotten, or said in another order. -/
def HSub (L L' : List HL) : Prop := ∃ M, L.Perm M ∧ M.Sublist L'
theorem HSub.refl (L : List HL) : HSub L L := ⟨L, List.Perm.refl _, List.Sublist.refl _⟩
theorem HSub.nil (L : List HL) : HSub [] L := ⟨[], List.Perm.refl _, List.nil_sublist _⟩
theorem perm_eraseIdx {α : Type} : ∀ {L : List α} {i : Nat} {x : α}, L[i]? = some x → L.Perm (x :: L.eraseIdx i)
  | [], i, x, h => by simp at h
  | y :: r, 0, x, h => by simp at h; subst h; simp
  | y :: r, i + 1, x, h => by
    have h' : r[i]? = some x := by simpa using h
    simp only [List.eraseIdx_cons_succ]
    exact (List.Perm.cons y (perm_eraseIdx h')).trans (List.Perm.swap x y _)
theorem HSub.pick {L L' : List HL} {h : HL} (i : Nat) (hi : L'[i]? = some h) (hk : HSub L (L'.eraseIdx i)) : HSub (h :: L) L' := by
  obtain ⟨M, hp, hs⟩ := hk
  obtain ⟨M', hp', hs'⟩ := List.exists_perm_sublist (List.Sublist.cons_cons h hs) (perm_eraseIdx hi).symm
  exact ⟨M', (List.Perm.cons h hp).trans hp'.symm, hs'⟩
theorem apart_symm {h k : HL} (hk : ∀ b, h.supp b → ¬ k.supp b) : ∀ b, k.supp b → ¬ h.supp b := fun b kb hb => hk b hb kb
theorem Sym.sub {w0 w : World} {S : Nat → Prop} {L L' : List HL} (hs : Sym w0 S L' w) (h : HSub L L') : Sym w0 S L w := by
  obtain ⟨M, hp, hl⟩ := h
  refine ⟨hs.old, fun h hm => hs.holds h (hl.subset (hp.mem_iff.1 hm)), fun h hm => hs.supp h (hl.subset (hp.mem_iff.1 hm)), ?_⟩
  exact (hp.pairwise_iff (fun {x y} h => apart_symm h)).2 (hs.apart.sublist hl)
/-- Two heaplets become one. -/
theorem Sym.join {w0 w : World} {S : Nat → Prop} {L : List HL} {h k : HL} (hs : Sym w0 S (h :: k :: L) w) : Sym w0 S (HL.star h k :: L) w := by
  have h1 := List.pairwise_cons.1 hs.apart
  have h2 := List.pairwise_cons.1 h1.2
  refine ⟨hs.old, fun x hx => ?_, fun x hx b hb => ?_, List.pairwise_cons.2 ⟨fun x hx b hb xb => ?_, h2.2⟩⟩
  · rcases List.mem_cons.1 hx with rfl | hx
    · exact ⟨hs.holds h (by simp), hs.holds k (by simp), h1.1 k (by simp)⟩
    · exact hs.holds x (by simp [hx])
  · rcases List.mem_cons.1 hx with rfl | hx
    · rcases hb with hb | hb
      · exact hs.supp h (by simp) b hb
      · exact hs.supp k (by simp) b hb
    · exact hs.supp x (by simp [hx]) b hb
  · rcases hb with hb | hb
    · exact h1.1 x (by simp [hx]) b hb xb
    · exact h2.1 x hx b hb xb
/-- A heaplet is read as another one. -/
theorem Sym.weaken {w0 w : World} {S : Nat → Prop} {L : List HL} {h k : HL} (hs : Sym w0 S (h :: L) w) (hh : h.holds w → k.holds w) (hsup : ∀ b, k.supp b → h.supp b) : Sym w0 S (k :: L) w := by
  have h1 := List.pairwise_cons.1 hs.apart
  refine ⟨hs.old, fun x hx => ?_, fun x hx b hb => ?_, List.pairwise_cons.2 ⟨fun x hx b hb => h1.1 x hx b (hsup b hb), h1.2⟩⟩
  · rcases List.mem_cons.1 hx with rfl | hx
    · exact hh (hs.holds h (by simp))
    · exact hs.holds x (by simp [hx])
  · rcases List.mem_cons.1 hx with rfl | hx
    · exact hs.supp h (by simp) b (hsup b hb)
    · exact hs.supp x (by simp [hx]) b hb
end Go.V
