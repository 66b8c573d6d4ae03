/- Diagrams as data, part d: the pieces as the program numbers them. -/
import Derived.Test.YtbodmnijpdffaaaDoorDc
namespace Go.V
open Go
/-- Some pieces are numbered, wholly. -/
structure PInv (d : Dia) (os : List Int) (k : Nat) : Prop where
  len : os.length = d.cross.length
  lo : ∀ (c : Nat) (x : Int), os[c]? = some x → -1 ≤ x ∧ x < k
  cls : ∀ (c c' : Nat) (x : Int), os[c]? = some x → 0 ≤ x → c' < d.cross.length → (os[c']? = some x ↔ Conn d c c')
  onto : ∀ j : Nat, j < k → ∃ c : Nat, os[c]? = some (j : Int)
theorem PInv.zero (d : Dia) : PInv d (List.replicate d.cross.length (-1)) 0 where
  len := by simp
  lo c x h := by rw [List.getElem?_replicate] at h; split at h <;> simp at h; omega
  cls c c' x h h0 := by rw [List.getElem?_replicate] at h; split at h <;> simp at h; omega
  onto j h := by omega
structure BInv (d : Dia) (os0 os : List Int) (n i : Nat) (qs : List Nat) : Prop where
  len : os.length = d.cross.length
  old : ∀ (c : Nat) (x : Int), os0[c]? = some x → 0 ≤ x → os[c]? = some x
  new : ∀ c : Nat, c ∈ qs ↔ os[c]? = some (n : Int)
  other : ∀ (c : Nat) (x : Int), os[c]? = some x → x ≠ (n : Int) → os0[c]? = some x
  conn : ∀ c ∈ qs, Conn d i c
  nodup : qs.Nodup
  start : i ∈ qs
theorem BInv.begin {d : Dia} {os0 : List Int} {n i : Nat} {x : Int} (hP : PInv d os0 n) (hi : os0[i]? = some x) (hx : x < 0) : BInv d os0 (os0.set i (n : Int)) n i [i] where
  len := by simpa using hP.len
  old c y h h0 := by
    rw [List.getElem?_set]
    split
    · rename_i e; subst e; rw [hi] at h; cases h; omega
    · exact h
  new c := by
    have hlt := (List.getElem?_eq_some_iff.1 hi).1
    rw [List.getElem?_set, List.mem_singleton]
    by_cases e : i = c
    · simp [e]; subst e; exact hlt
    · rw [if_neg e]
      constructor
      · intro h; exact absurd h.symm e
      · intro h; have := (hP.lo c _ h).2; omega
  other c y h hne := by
    rw [List.getElem?_set] at h
    split at h
    · split at h
      · simp at h; omega
      · cases h
    · exact h
  conn c hc := by rw [List.mem_singleton.1 hc]; exact .refl
  nodup := by simp
  start := by simp
/-- A neighbour that is numbered lies in the queue. -/
theorem BInv.there {d : Dia} {os0 os : List Int} {n i : Nat} {qs : List Nat} (hs : SoundP d) (hP : PInv d os0 n) (h : BInv d os0 os n i qs) {c p : Nat} (hc : c ∈ qs) (hcl : c < d.cross.length) (hp : p < 4) {x : Int} (hx : os[otherQ d (4 * c + p) / 4]? = some x) (h0 : 0 ≤ x) : otherQ d (4 * c + p) / 4 ∈ qs := by
  by_cases e : x = (n : Int)
  · rw [h.new, hx, e]
  · have h1 := h.other _ _ hx e
    have h2 := (hP.cls _ c x h1 h0 hcl).2 (Conn.back1 hs hcl hp)
    have h3 := h.old c x h2 h0
    have h4 := (h.new c).1 hc
    rw [h3] at h4
    exact absurd (Option.some.inj h4) e
theorem BInv.add {d : Dia} {os0 os : List Int} {n i : Nat} {qs : List Nat} (_ : PInv d os0 n) (h : BInv d os0 os n i qs) {c p : Nat} (hc : c ∈ qs) (hp : p < 4) {x : Int} (hx : os[otherQ d (4 * c + p) / 4]? = some x) (h0 : x < 0) :
    BInv d os0 (os.set (otherQ d (4 * c + p) / 4) (n : Int)) n i (qs ++ [otherQ d (4 * c + p) / 4]) where
  len := by simpa using h.len
  old c' y h1 h2 := by
    have h3 := h.old c' y h1 h2
    rw [List.getElem?_set]
    split
    · rename_i e; subst e; rw [hx] at h3; cases h3; omega
    · exact h3
  new c' := by
    have hlt := (List.getElem?_eq_some_iff.1 hx).1
    rw [List.getElem?_set, List.mem_append, List.mem_singleton, h.new]
    by_cases e : otherQ d (4 * c + p) / 4 = c'
    · simp [e]; subst e; exact hlt
    · rw [if_neg e]
      constructor
      · rintro (h1 | h1)
        · exact h1
        · exact absurd h1.symm e
      · exact .inl
  other c' y h1 hne := by
    rw [List.getElem?_set] at h1
    split at h1
    · split at h1
      · simp at h1; omega
      · cases h1
    · exact h.other c' y h1 hne
  conn c' hc' := by
    rcases List.mem_append.1 hc' with h1 | h1
    · exact h.conn c' h1
    · rw [List.mem_singleton.1 h1]; exact (h.conn c hc).step hp
  nodup := by
    rw [List.nodup_append]
    refine ⟨h.nodup, by simp, fun a ha b hb e => ?_⟩
    rw [List.mem_singleton.1 hb] at e
    subst e
    have := (h.new _).1 ha
    rw [hx] at this; cases this; omega
  start := List.mem_append.2 (.inl h.start)
/-- The queue is worked through up to place k, there up to p. -/
def QDone (d : Dia) (qs : List Nat) (k p : Nat) : Prop := (∀ j c p', qs[j]? = some c → j < k → p' < 4 → otherQ d (4 * c + p') / 4 ∈ qs) ∧ ∀ c p', qs[k]? = some c → p' < p → otherQ d (4 * c + p') / 4 ∈ qs
theorem QDone.zero (d : Dia) (qs : List Nat) : QDone d qs 0 0 := ⟨fun j c p' _ h => by omega, fun c p' _ h => by omega⟩
theorem QDone.app {d : Dia} {qs : List Nat} {k p : Nat} (h : QDone d qs k p) (hk : k < qs.length) (y : Nat) : QDone d (qs ++ [y]) k p :=
  ⟨fun j c p' hj hjk hp => List.mem_append.2 (.inl (h.1 j c p' (by rw [List.getElem?_append_left (by omega)] at hj; exact hj) hjk hp)),
   fun c p' hc hp => List.mem_append.2 (.inl (h.2 c p' (by rw [List.getElem?_append_left hk] at hc; exact hc) hp))⟩
theorem QDone.next {d : Dia} {qs : List Nat} {k p c : Nat} (h : QDone d qs k p) (hc : qs[k]? = some c) (hm : otherQ d (4 * c + p) / 4 ∈ qs) : QDone d qs k (p + 1) :=
  ⟨h.1, fun c' p' hc' hp => by
    rcases Nat.lt_or_ge p' p with h1 | h1
    · exact h.2 c' p' hc' h1
    · obtain rfl : p' = p := by omega
      rw [hc] at hc'; cases hc'; exact hm⟩
theorem QDone.row {d : Dia} {qs : List Nat} {k : Nat} (h : QDone d qs k 4) : QDone d qs (k + 1) 0 :=
  ⟨fun j c p' hj hjk hp => by
    rcases Nat.lt_or_ge j k with h1 | h1
    · exact h.1 j c p' hj h1 hp
    · obtain rfl : j = k := by omega
      exact h.2 c p' hj hp, fun c p' _ hp => by omega⟩
theorem BInv.done {d : Dia} {os0 os : List Int} {n i : Nat} {qs : List Nat} (hs : SoundP d) (hP : PInv d os0 n) (h : BInv d os0 os n i qs) (hi : i < d.cross.length) {k : Nat} (hk : qs.length ≤ k) (hq : QDone d qs k 0) : PInv d os (n + 1) := by
  have hall : ∀ c, Conn d i c → c ∈ qs := by
    intro c hc
    induction hc with
    | refl => exact h.start
    | @step c p hc hp ih =>
      obtain ⟨j, hj⟩ := List.getElem?_of_mem ih
      exact hq.1 j c p hj (by have := (List.getElem?_eq_some_iff.1 hj).1; omega) hp
  refine ⟨h.len, fun c x hx => ?_, fun c c' x hx h0 hc' => ?_, fun j hj => ?_⟩
  · by_cases e : x = (n : Int)
    · omega
    · have := hP.lo c x (h.other c x hx e); omega
  · by_cases e : x = (n : Int)
    · subst e
      have hc := h.conn c ((h.new c).2 hx)
      rw [← h.new]
      exact ⟨fun hm => (hc.symm hs hi).trans (h.conn c' hm), fun hcc => hall c' (hc.trans hcc)⟩
    · rw [← hP.cls c c' x (h.other c x hx e) h0 hc']
      exact ⟨fun hm => h.other c' x hm e, fun hm => h.old c' x hm h0⟩
  · rcases Nat.lt_or_ge j n with h1 | h1
    · obtain ⟨c, hc⟩ := hP.onto j h1
      exact ⟨c, h.old c _ hc (by omega)⟩
    · obtain rfl : j = n := by omega
      exact ⟨i, (h.new i).1 h.start⟩
theorem BInv.qlen {d : Dia} {os0 os : List Int} {n i : Nat} {qs : List Nat} (h : BInv d os0 os n i qs) : qs.length ≤ d.cross.length := by
  have hsub : qs ⊆ List.range d.cross.length := fun c hc => by
    have := (List.getElem?_eq_some_iff.1 ((h.new c).1 hc)).1
    rw [h.len] at this; exact List.mem_range.2 this
  have := List.Nodup.length_le_of_subset h.nodup hsub
  simpa using this
theorem BInv.lt {d : Dia} {os0 os : List Int} {n i : Nat} {qs : List Nat} (h : BInv d os0 os n i qs) {c : Nat} (hc : c ∈ qs) : c < d.cross.length := by
  have := (List.getElem?_eq_some_iff.1 ((h.new c).1 hc)).1
  rwa [h.len] at this
/-- All crossings up to i are numbered; a number is at most the number of crossings ahead. -/
theorem BInv.mono {d : Dia} {os0 os : List Int} {n i : Nat} {qs : List Nat} (h : BInv d os0 os n i qs) {m : Nat} (hm : ∀ c, c < m → ∃ x, os0[c]? = some x ∧ 0 ≤ x) : ∀ c, c < m → ∃ x, os[c]? = some x ∧ 0 ≤ x := fun c hc => by
  obtain ⟨x, hx, h0⟩ := hm c hc
  exact ⟨x, h.old c x hx h0, h0⟩
/-! ### The orbit of a place, counted -/
def OrbN (f : Nat → Nat) (q0 N : Nat) : Prop := 0 < N ∧ iter f N q0 = q0 ∧ ∀ k, 0 < k → k < N → iter f k q0 ≠ q0
theorem orbGo_orb {f : Nat → Nat} {q0 : Nat} : ∀ (k i : Nat), (∀ m, 0 < m → m ≤ i → iter f m q0 ≠ q0) → (∃ j, j ≤ k ∧ iter f (i + j + 1) q0 = q0) →
    ∃ n, 0 < n ∧ orbGo f q0 (k + 1) (iter f i q0) = (List.range n).map (fun m => iter f (i + m) q0) ∧ iter f (i + n) q0 = q0 ∧ ∀ m, 0 < m → m < i + n → iter f m q0 ≠ q0
  | k, i, hmin, ⟨j, hj, hb⟩ => by
    by_cases e : f (iter f i q0) = q0
    · refine ⟨1, by omega, by rw [orbGo_last e]; simp [List.range_succ], by rw [iter_succ]; exact e, fun m h0 h1 => hmin m h0 (by omega)⟩
    · have hj0 : j ≠ 0 := fun h => by subst h; rw [Nat.add_zero, iter_succ] at hb; exact e hb
      obtain ⟨k, rfl⟩ : ∃ m, k = m + 1 := ⟨k - 1, by omega⟩
      have hmin2 : ∀ m, 0 < m → m ≤ i + 1 → iter f m q0 ≠ q0 := fun m h0 h1 => by
        rcases Nat.lt_or_ge m (i + 1) with h | h
        · exact hmin m h0 (by omega)
        · obtain rfl : m = i + 1 := by omega
          rw [iter_succ]; exact e
      obtain ⟨n, h0, h1, h2, h3⟩ := orbGo_orb k (i + 1) hmin2 ⟨j - 1, by omega, by rw [show i + 1 + (j - 1) + 1 = i + j + 1 by omega]; exact hb⟩
      refine ⟨n + 1, by omega, ?_, by rw [show i + (n + 1) = i + 1 + n by omega]; exact h2, fun m h0 hm => h3 m h0 (by omega)⟩
      rw [orbGo_next e, ← iter_succ f i q0, h1, List.range_succ_eq_map, List.map_cons, List.map_map, Nat.add_zero]
      congr 1
      refine List.map_congr_left fun m _ => ?_
      show iter f (i + 1 + m) q0 = iter f (i + (m + 1)) q0
      rw [show i + 1 + m = i + (m + 1) by omega]
theorem SoundP.orb {d : Dia} (h : SoundP d) {q : Nat} (hq : q < 4 * d.cross.length) : OrbN (stepQ d) q (regionOf d q).length ∧ regionOf d q = (List.range (regionOf d q).length).map fun k => iter (stepQ d) k q := by
  obtain ⟨j, hj, hb⟩ := h.back hq
  obtain ⟨n, h0, h1, h2, h3⟩ := orbGo_orb (f := stepQ d) (q0 := q) (4 * d.cross.length - 1) 0 (fun m h0 h1 => by omega) ⟨j, hj, by rw [Nat.zero_add]; exact hb⟩
  rw [show 4 * d.cross.length - 1 + 1 = 4 * d.cross.length by omega] at h1
  simp only [Nat.zero_add] at h1 h2 h3
  have e : (regionOf d q).length = n := by rw [regionOf]; show (orbGo _ _ _ (iter (stepQ d) 0 q)).length = n; rw [h1]; simp
  rw [e]
  exact ⟨⟨h0, h2, h3⟩, h1⟩
end Go.V
