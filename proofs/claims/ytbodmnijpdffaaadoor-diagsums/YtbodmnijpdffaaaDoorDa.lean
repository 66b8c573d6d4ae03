/- Diagrams as data, and in memory. -/
import Derived.Test.YtbodmnijpdffaaaDoorVf
namespace Go.V
open Go
structure Cr where
  a0 : Int
  a1 : Int
  a2 : Int
  a3 : Int
  s : Int
  deriving DecidableEq
structure Dia where
  cross : List Cr
  loops : Int
  deriving DecidableEq
def Cr.arc (x : Cr) : Nat → Int
  | 0 => x.a0
  | 1 => x.a1
  | 2 => x.a2
  | _ => x.a3
/-- Does a strand come in at a place? -/
def Cr.inn (x : Cr) (p : Nat) : Bool := decide (p = 0 ∨ p = 3 ∧ x.s = 1 ∨ p = 1 ∧ x.s = -1)
abbrev iv (n : Int) : Value := .int .i64 n
def encCr (x : Cr) : List Value := [iv x.a0, iv x.a1, iv x.a2, iv x.a3, iv x.s]
abbrev crV (x : Cr) : Value := .agg #[iv x.a0, iv x.a1, iv x.a2, iv x.a3, iv x.s]
abbrev diaV (base : Option Addr) (cap : Nat) (d : Dia) : Value := .agg #[.slice base d.cross.length cap, iv d.loops]
def In64 (n : Int) : Prop := -9223372036854775808 ≤ n ∧ n ≤ 9223372036854775807
structure Cr.Wf (x : Cr) : Prop where
  a0 : In64 x.a0
  a1 : In64 x.a1
  a2 : In64 x.a2
  a3 : In64 x.a3
  s : In64 x.s
/-- The crossings lie from A on. -/
structure DiaAt (w : World) (base : Option Addr) (A : Addr) (d : Dia) : Prop where
  base : 0 < d.cross.length → base = some A
  cell : ∀ (i : Nat) (x : Cr), d.cross[i]? = some x → Cells w (A.add (i * 5)) (encCr x)
  len : d.cross.length ≤ 9223372036854775807
  wf : ∀ x ∈ d.cross, x.Wf
  loops : In64 d.loops
theorem DiaAt.arc {w : World} {base : Option Addr} {A : Addr} {d : Dia} (h : DiaAt w base A d) {i p : Nat} {x : Cr} (hi : d.cross[i]? = some x) (hp : p < 4) : w.cell? (((A.add (i * 5)).add 0).add (p * 1)) = some (iv (x.arc p)) := by
  have := h.cell i x hi p (iv (x.arc p)) (by
    match p, hp with
    | 0, _ => rfl
    | 1, _ => rfl
    | 2, _ => rfl
    | 3, _ => rfl)
  simpa [add_add] using this
theorem DiaAt.sign {w : World} {base : Option Addr} {A : Addr} {d : Dia} (h : DiaAt w base A d) {i : Nat} {x : Cr} (hi : d.cross[i]? = some x) : w.cell? ((A.add (i * 5)).add 4) = some (iv x.s) := h.cell i x hi 4 _ rfl
theorem DiaAt.cross {w : World} {base : Option Addr} {A : Addr} {d : Dia} (h : DiaAt w base A d) {i : Nat} {x : Cr} (hi : d.cross[i]? = some x) : Cells w (A.add (i * 5)) (encCr x) := h.cell i x hi
theorem DiaAt.old {w w' : World} {base : Option Addr} {A : Addr} {d : Dia} (h : DiaAt w base A d) (ho : Old Nil w w') : DiaAt w' base A d :=
  ⟨h.base, fun i x hi j v hj => ho.cell (h.cell i x hi j v hj) (fun x => x), h.len, h.wf, h.loops⟩
theorem DiaAt.sym {w w' : World} {L : List HL} {base : Option Addr} {A : Addr} {d : Dia} (h : DiaAt w base A d) (hs : Sym w Nil L w') : DiaAt w' base A d := h.old hs.old
theorem get_of_lt {α : Type} {l : List α} {i : Nat} (h : i < l.length) : ∃ x, l[i]? = some x := ⟨l[i], by simp [h]⟩
/-- Does an arc come in (go out) at place q (crossing q / 4, place q % 4)? -/
def matchAt (d : Dia) (a : Int) (inn : Bool) (q : Nat) : Bool :=
  match d.cross[q / 4]? with
  | some x => decide (x.arc (q % 4) = a) && (x.inn (q % 4) == inn)
  | none => false
def findEnd (d : Dia) (a : Int) (inn : Bool) : Option Nat := (List.range (4 * d.cross.length)).find? (matchAt d a inn)
def endC : Option Nat → Int
  | some q => ((q / 4 : Nat) : Int)
  | none => -1
def endP : Option Nat → Int
  | some q => ((q % 4 : Nat) : Int)
  | none => 0
abbrev endV (r : Option Nat) : Value := .agg #[iv (endC r), iv (endP r)]
theorem find_range_some {N k : Nat} {M : Nat → Bool} (hk : k < N) (hM : M k = true) (hlt : ∀ q, q < k → M q = false) : (List.range N).find? M = some k := by
  rw [List.find?_range_eq_some]
  exact ⟨hM, by simpa using hk, fun q hq => by simp [hlt q hq]⟩
theorem find_range_none {N : Nat} {M : Nat → Bool} (h : ∀ q, q < N → M q = false) : (List.range N).find? M = none := by
  rw [List.find?_eq_none]
  intro q hq
  simp [h q (by simpa using hq)]
theorem matchAt_eq {d : Dia} {c p : Nat} {x : Cr} (hx : d.cross[c]? = some x) (hp : p < 4) (a : Int) (inn : Bool) : matchAt d a inn (4 * c + p) = (decide (x.arc p = a) && (x.inn p == inn)) := by
  have h1 : (4 * c + p) / 4 = c := by omega
  have h2 : (4 * c + p) % 4 = p := by omega
  simp [matchAt, h1, h2, hx]
theorem lt_ext {M : Nat → Bool} {k : Nat} (h : ∀ q, q < k → M q = false) (hk : M k = false) : ∀ q, q < k + 1 → M q = false := fun q hq => by
  rcases Nat.lt_or_ge q k with h' | h'
  · exact h q h'
  · obtain rfl : q = k := by omega
    exact hk
/-! ### Sound diagrams, by data -/
def Dia.n (d : Dia) : Nat := d.cross.length
def crAt (d : Dia) (c : Nat) : Cr := d.cross.getD c ⟨0, 0, 0, 0, 0⟩
theorem crAt_eq {d : Dia} {c : Nat} {x : Cr} (h : d.cross[c]? = some x) : crAt d c = x := by simp [crAt, List.getD_eq_getElem?_getD, h]
theorem crAt_get {d : Dia} {c : Nat} (h : c < d.cross.length) : d.cross[c]? = some (crAt d c) := by simp [crAt, List.getD_eq_getElem?_getD, h]
def arcQ (d : Dia) (q : Nat) : Int := (crAt d (q / 4)).arc (q % 4)
def innQ (d : Dia) (q : Nat) : Bool := (crAt d (q / 4)).inn (q % 4)
theorem matchAt_iff {d : Dia} {a : Int} {inn : Bool} {q : Nat} (hq : q < 4 * d.cross.length) : matchAt d a inn q = true ↔ arcQ d q = a ∧ innQ d q = inn := by
  have h : q / 4 < d.cross.length := by omega
  simp [matchAt, crAt_get h, arcQ, innQ]
theorem findEnd_some {d : Dia} {a : Int} {inn : Bool} {q : Nat} (h : findEnd d a inn = some q) : q < 4 * d.cross.length ∧ arcQ d q = a ∧ innQ d q = inn ∧ ∀ q', q' < q → matchAt d a inn q' = false := by
  have h1 := List.find?_range_eq_some.1 h
  have h2 : q < 4 * d.cross.length := by simpa using h1.2.1
  exact ⟨h2, ((matchAt_iff h2).1 h1.1).1, ((matchAt_iff h2).1 h1.1).2, fun q' hq' => by simpa using h1.2.2 q' hq'⟩
/-- How many of the first Q places match. -/
def cnt (d : Dia) (a : Int) (inn : Bool) (Q : Nat) : Nat := ((List.range Q).filter (matchAt d a inn)).length
theorem cnt_zero (d : Dia) (a : Int) (inn : Bool) : cnt d a inn 0 = 0 := rfl
theorem cnt_succ (d : Dia) (a : Int) (inn : Bool) (Q : Nat) : cnt d a inn (Q + 1) = cnt d a inn Q + if matchAt d a inn Q = true then 1 else 0 := by
  simp only [cnt, List.range_succ, List.filter_append, List.length_append]
  by_cases h : matchAt d a inn Q = true <;> simp [h]
def SoundP (d : Dia) : Prop := d.cross.length ≤ 200 ∧ 0 ≤ d.loops ∧ d.loops ≤ 200 ∧ (∀ x ∈ d.cross, (x.s = 1 ∨ x.s = -1) ∧ ∀ p, p < 4 → 0 ≤ x.arc p ∧ x.arc p < 2 * d.cross.length) ∧
  ∀ a : Nat, a < 2 * d.cross.length → cnt d a false (4 * d.cross.length) = 1 ∧ cnt d a true (4 * d.cross.length) = 1
/-- The arc behind an arc. -/
def nextA (d : Dia) (a : Int) : Int := match findEnd d a true with
  | some q => (crAt d (q / 4)).arc ((q % 4 + 2) % 4)
  | none => 0
def writheTo (d : Dia) (c : Nat) : Int := ((d.cross.take c).map Cr.s).sum
def writhe (d : Dia) : Int := writheTo d d.cross.length
theorem writheTo_succ {d : Dia} {c : Nat} {x : Cr} (hx : d.cross[c]? = some x) : writheTo d (c + 1) = writheTo d c + x.s := by
  have hc : c < d.cross.length := (List.getElem?_eq_some_iff.1 hx).1
  simp only [writheTo, List.take_add_one, hx, Option.toList_some, List.map_append, List.sum_append]
  simp
theorem writheTo_bound {d : Dia} (h : ∀ x ∈ d.cross, x.s = 1 ∨ x.s = -1) : ∀ c : Nat, -(c : Int) ≤ writheTo d c ∧ writheTo d c ≤ c := by
  intro c
  induction c with
  | zero => simp [writheTo]
  | succ c ih =>
    rcases Nat.lt_or_ge c d.cross.length with hc | hc
    · obtain ⟨x, hx⟩ := get_of_lt hc
      have := h x (List.mem_of_getElem? hx)
      rw [writheTo_succ hx]; omega
    · have e : writheTo d (c + 1) = writheTo d c := by simp only [writheTo]; rw [List.take_of_length_le (by omega), List.take_of_length_le hc]
      rw [e]; omega
/-- -1 in the first places, 0 behind. -/
def negTo (N a : Nat) : List Int := (List.range N).map fun i => if i < a then -1 else 0
theorem negTo_len (N a : Nat) : (negTo N a).length = N := by simp [negTo]
theorem negTo_zero (N : Nat) : negTo N 0 = List.replicate N 0 := by
  apply List.ext_getElem?; intro i
  simp only [negTo, List.getElem?_map, List.getElem?_replicate]
  by_cases h : i < N <;> simp [h]
theorem negTo_all (N : Nat) : negTo N N = List.replicate N (-1) := by
  apply List.ext_getElem?; intro i
  simp only [negTo, List.getElem?_map, List.getElem?_replicate]
  by_cases h : i < N <;> simp [h]
theorem negTo_succ {N a : Nat} (h : a < N) : (negTo N a).set a (-1) = negTo N (a + 1) := by
  apply List.ext_getElem?
  intro i
  rw [List.getElem?_set]
  simp only [negTo, List.length_map, List.length_range, List.getElem?_map]
  by_cases hi : i < N
  · by_cases e : a = i
    · subst e; simp [h]
    · by_cases h1 : i < a
      · simp [e, hi, h1, show i < a + 1 by omega]
      · simp [e, hi, h1, show ¬ i < a + 1 by omega]
  · simp [hi]; intro e; omega
/-- From b on along nx as long as there is no number: number k. -/
def markC (nx : Nat → Nat) (k : Int) : Nat → List Int → Nat → List Int
  | 0, out, _ => out
  | f + 1, out, b => if out.getD b 0 < 0 then markC nx k f (out.set b k) (nx b) else out
def compStep (nx : Nat → Nat) (N : Nat) (s : List Int × Nat) (a : Nat) : List Int × Nat := if 0 ≤ s.1.getD a 0 then s else (markC nx (s.2 : Int) N s.1 a, s.2 + 1)
def compTo (nx : Nat → Nat) (N a : Nat) : List Int × Nat := (List.range a).foldl (compStep nx N) (List.replicate N (-1), 0)
theorem compTo_succ (nx : Nat → Nat) (N a : Nat) : compTo nx N (a + 1) = compStep nx N (compTo nx N a) a := by simp [compTo, List.range_succ]
def nextN (d : Dia) (a : Nat) : Nat := (nextA d (a : Int)).toNat
def compOf (d : Dia) : List Int := (compTo (nextN d) (2 * d.cross.length) (2 * d.cross.length)).1
def compCount (d : Dia) : Nat := (compTo (nextN d) (2 * d.cross.length) (2 * d.cross.length)).2
theorem markC_stop {nx : Nat → Nat} {k : Int} {f : Nat} {out : List Int} {b : Nat} (h : ¬ out.getD b 0 < 0) : markC nx k f out b = out := by
  cases f with
  | zero => rfl
  | succ f => rw [markC, if_neg h]
theorem markC_go {nx : Nat → Nat} {k : Int} {f : Nat} {out : List Int} {b : Nat} (h : out.getD b 0 < 0) : markC nx k (f + 1) out b = markC nx k f (out.set b k) (nx b) := by rw [markC, if_pos h]
theorem markC_len (nx : Nat → Nat) (k : Int) : ∀ (f : Nat) (out : List Int) (b : Nat), (markC nx k f out b).length = out.length
  | 0, _, _ => rfl
  | f + 1, out, b => by
    rw [markC]
    split
    · rw [markC_len nx k f, List.length_set]
    · rfl
theorem compTo_len (nx : Nat → Nat) (N a : Nat) : (compTo nx N a).1.length = N := by
  induction a with
  | zero => simp [compTo]
  | succ a ih =>
    rw [compTo_succ, compStep]
    split
    · exact ih
    · rw [markC_len]; exact ih
theorem compTo_le (nx : Nat → Nat) (N a : Nat) : (compTo nx N a).2 ≤ a := by
  induction a with
  | zero => simp [compTo]
  | succ a ih =>
    rw [compTo_succ, compStep]
    split
    · omega
    · show _ + 1 ≤ _; omega
/-- How many numbers are below 0. -/
def negs (out : List Int) : Nat := (out.filter fun x => decide (x < 0)).length
theorem negs_le (out : List Int) : negs out ≤ out.length := List.length_filter_le _ _
theorem negs_set {out : List Int} {b : Nat} {k : Int} (hb : b < out.length) (h : out.getD b 0 < 0) (hk : 0 ≤ k) : negs (out.set b k) + 1 = negs out := by
  induction out generalizing b with
  | nil => simp at hb
  | cons x r ih =>
    cases b with
    | zero =>
      simp only [List.getD_cons_zero] at h
      have h2 : ¬ k < 0 := by omega
      simp [negs, h, h2]
    | succ b =>
      have := ih (b := b) (by simpa using hb) (by simpa using h)
      simp only [List.set_cons_succ]
      by_cases hx : x < 0 <;> simp [negs, hx] at this ⊢ <;> omega
theorem negs_pos {out : List Int} {b : Nat} (hb : b < out.length) (h : out.getD b 0 < 0) : 0 < negs out := by
  have := negs_set (k := 0) hb h (Int.le_refl _); omega
theorem getD_get {α : Type} {l : List α} {i : Nat} (h : i < l.length) (z : α) : l[i]? = some (l.getD i z) := by simp [List.getD_eq_getElem?_getD, h]
theorem cnt_le_one_unique {d : Dia} {a : Int} {inn : Bool} : ∀ {Q : Nat}, cnt d a inn Q ≤ 1 → ∀ q q', q < Q → q' < Q → matchAt d a inn q = true → matchAt d a inn q' = true → q = q' := by
  intro Q
  induction Q with
  | zero => intro _ q q' h; omega
  | succ Q ih =>
    intro h q q' hq hq' m m'
    rw [cnt_succ] at h
    have key : ∀ r, r < Q → matchAt d a inn r = true → 0 < cnt d a inn Q := by
      intro r hr hm
      simp only [cnt]
      apply List.length_pos_of_mem (a := r)
      simp [hr, hm]
    by_cases e : matchAt d a inn Q = true
    · rw [if_pos e] at h
      have h1 : q = Q := by
        rcases Nat.lt_or_ge q Q with h2 | h2
        · have := key q h2 m; omega
        · omega
      have h1' : q' = Q := by
        rcases Nat.lt_or_ge q' Q with h2 | h2
        · have := key q' h2 m'; omega
        · omega
      omega
    · rw [if_neg e] at h
      have h1 : q < Q := by
        rcases Nat.lt_or_ge q Q with h2 | h2
        · exact h2
        · have : q = Q := by omega
          subst this; exact absurd m e
      have h1' : q' < Q := by
        rcases Nat.lt_or_ge q' Q with h2 | h2
        · exact h2
        · have : q' = Q := by omega
          subst this; exact absurd m' e
      exact ih (by omega) q q' h1 h1' m m'
theorem cnt_pos_find {d : Dia} {a : Int} {inn : Bool} (h : 0 < cnt d a inn (4 * d.cross.length)) : ∃ q, findEnd d a inn = some q := by
  obtain ⟨r, hr⟩ := List.exists_mem_of_length_pos h
  simp at hr
  cases hf : findEnd d a inn with
  | some q => exact ⟨q, rfl⟩
  | none =>
    rw [findEnd, List.find?_eq_none] at hf
    exact absurd hr.2 (hf r (by simpa using hr.1))
theorem SoundP.find {d : Dia} (h : SoundP d) {a : Nat} (ha : a < 2 * d.cross.length) (inn : Bool) : ∃ q, findEnd d (a : Int) inn = some q := by
  obtain ⟨_, _, _, _, h5⟩ := h
  refine cnt_pos_find ?_
  cases inn
  · rw [(h5 a ha).1]; omega
  · rw [(h5 a ha).2]; omega
theorem SoundP.arc {d : Dia} (h : SoundP d) {c p : Nat} (hc : c < d.cross.length) (hp : p < 4) : 0 ≤ (crAt d c).arc p ∧ (crAt d c).arc p < 2 * d.cross.length :=
  (h.2.2.2.1 (crAt d c) (List.mem_of_getElem? (crAt_get hc))).2 p hp
theorem SoundP.next {d : Dia} (h : SoundP d) {a : Nat} (ha : a < 2 * d.cross.length) : nextA d (a : Int) = ((nextN d a : Nat) : Int) ∧ nextN d a < 2 * d.cross.length := by
  obtain ⟨q, hq⟩ := h.find ha true
  have h1 := (findEnd_some hq).1
  have h2 := h.arc (c := q / 4) (p := (q % 4 + 2) % 4) (by omega) (by omega)
  have e : nextA d (a : Int) = (crAt d (q / 4)).arc ((q % 4 + 2) % 4) := by rw [nextA, hq]
  simp only [nextN, e]
  omega
/-- The greatest number, and 1. -/
def maxOf (xs : List Int) : Int := xs.foldl (fun n x => max n (x + 1)) 0
def maxTo (xs : List Int) (a : Nat) : Int := maxOf (xs.take a)
theorem maxTo_succ {xs : List Int} {a : Nat} {y : Int} (h : xs[a]? = some y) : maxTo xs (a + 1) = max (maxTo xs a) (y + 1) := by
  simp only [maxTo, maxOf, List.take_add_one, h, Option.toList_some, List.foldl_append, List.foldl_cons, List.foldl_nil]
theorem maxTo_bound {xs : List Int} {m : Int} (h0 : 0 ≤ m) (h : ∀ x ∈ xs, x + 1 ≤ m) : ∀ a : Nat, 0 ≤ maxTo xs a ∧ maxTo xs a ≤ m := by
  intro a
  induction a with
  | zero => simp [maxTo, maxOf]; exact h0
  | succ a ih =>
    rcases Nat.lt_or_ge a xs.length with ha | ha
    · have hy : xs[a]? = some xs[a] := by simp [ha]
      rw [maxTo_succ hy]
      have := h xs[a] (by simp)
      omega
    · have e : maxTo xs (a + 1) = maxTo xs a := by simp only [maxTo]; rw [List.take_of_length_le (by omega), List.take_of_length_le ha]
      rw [e]; exact ih
theorem markC_le {nx : Nat → Nat} {k m : Int} (hk : k ≤ m) : ∀ (f : Nat) (out : List Int) (b : Nat), (∀ x ∈ out, x ≤ m) → ∀ x ∈ markC nx k f out b, x ≤ m
  | 0, _, _, h => h
  | f + 1, out, b, h => by
    rw [markC]
    split
    · refine markC_le hk f _ _ fun x hx => ?_
      rcases List.mem_or_eq_of_mem_set hx with hx | rfl
      · exact h x hx
      · exact hk
    · exact h
theorem compTo_vals (nx : Nat → Nat) (N a : Nat) : ∀ x ∈ (compTo nx N a).1, x ≤ (compTo nx N a).2 := by
  induction a with
  | zero => intro x hx; simp [compTo] at hx; simp [compTo]; omega
  | succ a ih =>
    rw [compTo_succ, compStep]
    split
    · exact ih
    · exact markC_le (by show ((compTo nx N a).2 : Int) ≤ ((compTo nx N a).2 + 1 : Nat); omega) N _ _ fun x hx => by have := ih x hx; show x ≤ (((compTo nx N a).2 + 1 : Nat) : Int); omega
theorem compOf_vals (d : Dia) : ∀ x ∈ compOf d, x ≤ 2 * d.cross.length := fun x hx => by
  have := compTo_vals _ _ _ x hx
  have h2 := compTo_le (nextN d) (2 * d.cross.length) (2 * d.cross.length)
  omega
theorem markC_ge {nx : Nat → Nat} {k : Int} (hk : -1 ≤ k) : ∀ (f : Nat) (out : List Int) (b : Nat), (∀ x ∈ out, -1 ≤ x) → ∀ x ∈ markC nx k f out b, -1 ≤ x
  | 0, _, _, h => h
  | f + 1, out, b, h => by
    rw [markC]
    split
    · refine markC_ge hk f _ _ fun x hx => ?_
      rcases List.mem_or_eq_of_mem_set hx with hx | rfl
      · exact h x hx
      · exact hk
    · exact h
theorem compTo_ge (nx : Nat → Nat) (N a : Nat) : ∀ x ∈ (compTo nx N a).1, -1 ≤ x := by
  induction a with
  | zero => intro x hx; simp [compTo] at hx; omega
  | succ a ih =>
    rw [compTo_succ, compStep]
    split
    · exact ih
    · exact markC_ge (by omega) N _ _ ih
theorem compOf_ge (d : Dia) : ∀ x ∈ compOf d, -1 ≤ x := compTo_ge _ _ _
theorem compOf_len (d : Dia) : (compOf d).length = 2 * d.cross.length := compTo_len _ _ _
/-! ### Counting -/
def cntL (d : Dia) (inn : Bool) (Q : Nat) : List Int := (List.range (2 * d.cross.length)).map fun a : Nat => (cnt d (a : Int) inn Q : Int)
theorem cntL_len (d : Dia) (inn : Bool) (Q : Nat) : (cntL d inn Q).length = 2 * d.cross.length := by simp [cntL]
theorem cntL_zero (d : Dia) (inn : Bool) : cntL d inn 0 = List.replicate (2 * d.cross.length) 0 := by
  apply List.ext_getElem?; intro i
  by_cases h : i < 2 * d.cross.length <;> simp [cntL, cnt_zero, h]
theorem cntL_get {d : Dia} {inn : Bool} {Q a : Nat} (ha : a < 2 * d.cross.length) : (cntL d inn Q)[a]? = some (cnt d (a : Int) inn Q : Int) := by simp [cntL, ha]
theorem cnt_bound (d : Dia) (a : Int) (inn : Bool) (Q : Nat) : cnt d a inn Q ≤ Q := by
  simp only [cnt]; have := List.length_filter_le (matchAt d a inn) (List.range Q); simpa using this
theorem cntL_same {d : Dia} {inn : Bool} {c p : Nat} {x : Cr} (hx : d.cross[c]? = some x) (hp : p < 4) (h : x.inn p ≠ inn) : cntL d inn (4 * c + (p + 1)) = cntL d inn (4 * c + p) := by
  simp only [cntL]
  apply List.map_congr_left
  intro a _
  rw [show 4 * c + (p + 1) = 4 * c + p + 1 by omega, cnt_succ, matchAt_eq hx hp]
  have : (x.inn p == inn) = false := by simpa using h
  simp [this]
theorem cntL_set {d : Dia} {inn : Bool} {c p m : Nat} {x : Cr} (hx : d.cross[c]? = some x) (hp : p < 4) (h : x.inn p = inn) (hm : x.arc p = (m : Int)) (hl : m < 2 * d.cross.length) :
    (cntL d inn (4 * c + p)).set m ((cnt d (m : Int) inn (4 * c + p) : Int) + 1) = cntL d inn (4 * c + (p + 1)) := by
  apply List.ext_getElem?
  intro a
  rw [List.getElem?_set, cntL_len]
  have key : ∀ a : Nat, cnt d (a : Int) inn (4 * c + (p + 1)) = cnt d (a : Int) inn (4 * c + p) + if m = a then 1 else 0 := by
    intro a
    rw [show 4 * c + (p + 1) = 4 * c + p + 1 by omega, cnt_succ, matchAt_eq hx hp, hm, h]
    by_cases e : m = a
    · subst e; simp
    · have : ¬ ((m : Int) = (a : Int)) := by omega
      simp [e, this]
  by_cases ha : a < 2 * d.cross.length
  · by_cases e : m = a
    · subst e
      rw [if_pos rfl, if_pos hl, cntL_get ha, key]; simp
    · rw [if_neg e, cntL_get ha, cntL_get ha, key]; simp [e]
  · rw [if_neg (by omega), List.getElem?_eq_none (by rw [cntL_len]; omega), List.getElem?_eq_none (by rw [cntL_len]; omega)]
noncomputable def soundB (d : Dia) : Bool := @decide (SoundP d) (Classical.propDecidable _)
theorem soundB_true {d : Dia} (h : SoundP d) : Value.bool true = .bool (soundB d) := congrArg Value.bool (@decide_eq_true _ (Classical.propDecidable _) h).symm
theorem soundB_false {d : Dia} (h : ¬ SoundP d) : Value.bool false = .bool (soundB d) := congrArg Value.bool (@decide_eq_false _ (Classical.propDecidable _) h).symm
theorem soundB_iff {d : Dia} : soundB d = true ↔ SoundP d := @decide_eq_true_iff _ (Classical.propDecidable _)
theorem arc_nat {x : Cr} {p : Nat} (h : 0 ≤ x.arc p) : x.arc p = ((x.arc p).toNat : Int) := (Int.toNat_of_nonneg h).symm
/-! ### Places and regions -/
def encQ (q : Nat) : List Value := [iv ((q / 4 : Nat) : Int), iv ((q % 4 : Nat) : Int)]
theorem encQ_len (q : Nat) : (encQ q).length = 2 := rfl
theorem encQ_at {qs : List Nat} {m q : Nat} (h : qs[m]? = some q) : ∀ j u, [iv ((q / 4 : Nat) : Int), iv ((q % 4 : Nat) : Int)][j]? = some u → (qs.flatMap encQ)[m * 2 + j]? = some u := fun _ _ hu => flat_get encQ_len h hu
def otherQ (d : Dia) (q : Nat) : Nat := (findEnd d (arcQ d q) (!innQ d q)).getD 0
def stepQ (d : Dia) (q : Nat) : Nat := 4 * (otherQ d q / 4) + (otherQ d q % 4 + 3) % 4
theorem SoundP.arcQ {d : Dia} (h : SoundP d) {q : Nat} (hq : q < 4 * d.cross.length) : 0 ≤ arcQ d q ∧ arcQ d q < 2 * d.cross.length := h.arc (c := q / 4) (p := q % 4) (by omega) (by omega)
theorem SoundP.other {d : Dia} (h : SoundP d) {q : Nat} (hq : q < 4 * d.cross.length) : findEnd d (V.arcQ d q) (!innQ d q) = some (otherQ d q) := by
  have ha := h.arcQ hq
  obtain ⟨r, hr⟩ := h.find (a := (V.arcQ d q).toNat) (by omega) (!innQ d q)
  rw [Int.toNat_of_nonneg ha.1] at hr
  simp [otherQ, hr]
theorem SoundP.other_lt {d : Dia} (h : SoundP d) {q : Nat} (hq : q < 4 * d.cross.length) : otherQ d q < 4 * d.cross.length := (findEnd_some (h.other hq)).1
theorem SoundP.step_lt {d : Dia} (h : SoundP d) {q : Nat} (hq : q < 4 * d.cross.length) : stepQ d q < 4 * d.cross.length := by
  have := h.other_lt hq; simp only [stepQ]; omega
theorem SoundP.match_unique {d : Dia} (h : SoundP d) {a : Nat} (ha : a < 2 * d.cross.length) {inn : Bool} {q q' : Nat} (hq : q < 4 * d.cross.length) (hq' : q' < 4 * d.cross.length) (m : matchAt d (a : Int) inn q = true) (m' : matchAt d (a : Int) inn q' = true) : q = q' := by
  have h5 := h.2.2.2.2 a ha
  cases inn
  · exact cnt_le_one_unique (by rw [h5.1]; omega) q q' hq hq' m m'
  · exact cnt_le_one_unique (by rw [h5.2]; omega) q q' hq hq' m m'
theorem SoundP.place_unique {d : Dia} (h : SoundP d) {q q' : Nat} (hq : q < 4 * d.cross.length) (hq' : q' < 4 * d.cross.length) (ha : V.arcQ d q = V.arcQ d q') (hi : innQ d q = innQ d q') : q = q' := by
  have h1 := h.arcQ hq
  refine h.match_unique (a := (V.arcQ d q).toNat) (inn := innQ d q) (by omega) hq hq' ?_ ?_
  · rw [matchAt_iff hq, Int.toNat_of_nonneg h1.1]; exact ⟨rfl, rfl⟩
  · rw [matchAt_iff hq', Int.toNat_of_nonneg h1.1]; exact ⟨ha.symm, hi.symm⟩
theorem SoundP.other_other {d : Dia} (h : SoundP d) {q : Nat} (hq : q < 4 * d.cross.length) : otherQ d (otherQ d q) = q := by
  have h1 := findEnd_some (h.other hq)
  have h2 := findEnd_some (h.other h1.1)
  refine h.place_unique h2.1 hq (h2.2.1.trans h1.2.1) ?_
  rw [h2.2.2.1, h1.2.2.1, Bool.not_not]
theorem SoundP.step_inj {d : Dia} (h : SoundP d) {q q' : Nat} (hq : q < 4 * d.cross.length) (hq' : q' < 4 * d.cross.length) (e : stepQ d q = stepQ d q') : q = q' := by
  have h1 : otherQ d q = otherQ d q' := by simp only [stepQ] at e; omega
  rw [← h.other_other hq, h1, h.other_other hq']
/-! ### Orbits -/
def iter (f : Nat → Nat) : Nat → Nat → Nat
  | 0, x => x
  | k + 1, x => iter f k (f x)
theorem iter_succ (f : Nat → Nat) : ∀ (k x : Nat), iter f (k + 1) x = f (iter f k x)
  | 0, _ => rfl
  | k + 1, x => by rw [iter, iter_succ f k (f x)]; rfl
theorem iter_add (f : Nat → Nat) (a : Nat) : ∀ (b x : Nat), iter f (a + b) x = iter f a (iter f b x)
  | 0, _ => rfl
  | b + 1, x => by rw [← Nat.add_assoc, iter, iter_add f a b (f x)]; rfl
theorem iter_lt {f : Nat → Nat} {N : Nat} (hf : ∀ x, x < N → f x < N) : ∀ (k x : Nat), x < N → iter f k x < N
  | 0, _, h => h
  | k + 1, x, h => iter_lt hf k (f x) (hf x h)
/-- A permutation of the numbers below N comes back. -/
theorem comes_back {f : Nat → Nat} {N : Nat} (hf : ∀ x, x < N → f x < N) (hi : ∀ x y, x < N → y < N → f x = f y → x = y) {x : Nat} (hx : x < N) : ∃ j, j < N ∧ iter f (j + 1) x = x := by
  -- among the first N + 1 iterates two are equal
  have hpig : ∃ a b, a < b ∧ b ≤ N ∧ iter f a x = iter f b x := by
    refine Classical.byContradiction fun hno => ?_
    have hnd : ((List.range (N + 1)).map fun k => iter f k x).Nodup := by
      rw [List.nodup_iff_pairwise_ne]
      rw [List.pairwise_map]
      refine List.Pairwise.imp_of_mem ?_ (List.pairwise_lt_range)
      intro a b _ hb hab e
      exact hno ⟨a, b, hab, by have := List.mem_range.1 hb; omega, e⟩
    have hsub : ((List.range (N + 1)).map fun k => iter f k x) ⊆ List.range N := by
      intro y hy
      obtain ⟨k, _, rfl⟩ := List.mem_map.1 hy
      exact List.mem_range.2 (iter_lt hf k x hx)
    have := List.Nodup.length_le_of_subset hnd hsub
    simp only [List.length_map, List.length_range] at this
    omega
  obtain ⟨a, b, hab, hb, e⟩ := hpig
  -- take off the first a steps
  have back : ∀ (a b : Nat), a ≤ b → iter f a x = iter f b x → iter f (b - a) x = x := by
    intro a
    induction a with
    | zero => intro b _ e; simpa [iter] using e.symm
    | succ a ih =>
      intro b hab e
      obtain ⟨b, rfl⟩ : ∃ c, b = c + 1 := ⟨b - 1, by omega⟩
      rw [iter_succ, iter_succ] at e
      have := hi _ _ (iter_lt hf a x hx) (iter_lt hf b x hx) e
      have := ih b (by omega) this
      rwa [show b + 1 - (a + 1) = b - a by omega]
  exact ⟨b - a - 1, by omega, by rw [show b - a - 1 + 1 = b - a by omega]; exact back a b (by omega) e⟩
def orbGo (f : Nat → Nat) (q0 : Nat) : Nat → Nat → List Nat
  | 0, _ => []
  | k + 1, x => x :: (if f x = q0 then [] else orbGo f q0 k (f x))
theorem orbGo_last {f : Nat → Nat} {q0 k x : Nat} (h : f x = q0) : orbGo f q0 (k + 1) x = [x] := by rw [orbGo, if_pos h]
theorem orbGo_next {f : Nat → Nat} {q0 k x : Nat} (h : ¬ f x = q0) : orbGo f q0 (k + 1) x = x :: orbGo f q0 k (f x) := by rw [orbGo, if_neg h]
def regionOf (d : Dia) (q : Nat) : List Nat := orbGo (stepQ d) q (4 * d.cross.length) q
theorem SoundP.back {d : Dia} (h : SoundP d) {q : Nat} (hq : q < 4 * d.cross.length) : ∃ j, j ≤ 4 * d.cross.length - 1 ∧ iter (stepQ d) (j + 1) q = q := by
  obtain ⟨j, hj, e⟩ := comes_back (fun x hx => h.step_lt hx) (fun x y hx hy e => h.step_inj hx hy e) hq
  exact ⟨j, by omega, e⟩
def regStep (d : Dia) (out : List (List Nat)) (q : Nat) : List (List Nat) := if out.any (fun r => r.contains q) then out else out ++ [regionOf d q]
def regsTo (d : Dia) (Q : Nat) : List (List Nat) := (List.range Q).foldl (regStep d) []
def regsOf (d : Dia) : List (List Nat) := regsTo d (4 * d.cross.length)
theorem regsTo_succ (d : Dia) (Q : Nat) : regsTo d (Q + 1) = regStep d (regsTo d Q) Q := by simp [regsTo, List.range_succ]
theorem regsTo_len (d : Dia) (Q : Nat) : (regsTo d Q).length ≤ Q := by
  induction Q with
  | zero => simp [regsTo]
  | succ Q ih => rw [regsTo_succ, regStep]; split; omega; simp; omega
theorem orbGo_len (f : Nat → Nat) (q0 : Nat) : ∀ (k x : Nat), (orbGo f q0 k x).length ≤ k
  | 0, _ => by simp [orbGo]
  | k + 1, x => by
    rw [orbGo]
    split
    · simp
    · simp; exact orbGo_len f q0 k _
theorem orbGo_lt {f : Nat → Nat} {N : Nat} (hf : ∀ x, x < N → f x < N) (q0 : Nat) : ∀ (k x : Nat), x < N → ∀ y ∈ orbGo f q0 k x, y < N
  | 0, _, _, y, hy => by simp [orbGo] at hy
  | k + 1, x, hx, y, hy => by
    rw [orbGo] at hy
    rcases List.mem_cons.1 hy with rfl | hy
    · exact hx
    · split at hy
      · simp at hy
      · exact orbGo_lt hf q0 k _ (hf x hx) y hy
def regHL (a : Value × List Nat) : HL := HL.own 43 2 a.1 a.2.length (a.2.flatMap encQ)
theorem regionOf_len (d : Dia) (q : Nat) : (regionOf d q).length ≤ 4 * d.cross.length := orbGo_len _ _ _ _
theorem regsTo_mem (d : Dia) (Q : Nat) : ∀ r ∈ regsTo d Q, ∃ q, q < Q ∧ r = regionOf d q := by
  induction Q with
  | zero => intro r hr; simp [regsTo] at hr
  | succ Q ih =>
    intro r hr
    rw [regsTo_succ, regStep] at hr
    split at hr
    · obtain ⟨q, h, e⟩ := ih r hr; exact ⟨q, by omega, e⟩
    · rcases List.mem_append.1 hr with hr | hr
      · obtain ⟨q, h, e⟩ := ih r hr; exact ⟨q, by omega, e⟩
      · exact ⟨Q, by omega, List.mem_singleton.1 hr⟩
theorem regsTo_mem_len {d : Dia} {Q : Nat} {as : List (Value × List Nat)} (h : as.map Prod.snd = regsTo d Q) {a : Value × List Nat} (ha : a ∈ as) : a.2.length ≤ 4 * d.cross.length := by
  obtain ⟨q, _, e⟩ := regsTo_mem d Q a.2 (by rw [← h]; exact List.mem_map_of_mem ha)
  rw [e]; exact regionOf_len d q
theorem regsTo_as_len {d : Dia} {Q : Nat} {as : List (Value × List Nat)} (h : as.map Prod.snd = regsTo d Q) : as.length ≤ Q := by
  have := regsTo_len d Q; rw [← h, List.length_map] at this; exact this
theorem regs_push {d : Dia} {Q : Nat} {as : List (Value × List Nat)} {v : Value} (h : as.map Prod.snd = regsTo d Q) (hn : as.any (fun a => a.2.contains Q) = false) : (as ++ [(v, regionOf d Q)]).map Prod.snd = regsTo d (Q + 1) := by
  rw [regsTo_succ, regStep, ← h, any_snd, if_neg (by rw [hn]; simp), List.map_append]; rfl
theorem regs_keep {d : Dia} {Q : Nat} {as : List (Value × List Nat)} (h : as.map Prod.snd = regsTo d Q) (hn : as.any (fun a => a.2.contains Q) = true) : as.map Prod.snd = regsTo d (Q + 1) := by
  rw [regsTo_succ, regStep, ← h, any_snd, if_pos hn]
theorem step_div (d : Dia) (q : Nat) : stepQ d q / 4 = otherQ d q / 4 := by simp only [stepQ]; omega
theorem step_mod (d : Dia) (q : Nat) : stepQ d q % 4 = (otherQ d q % 4 + 3) % 4 := by simp only [stepQ]; omega
theorem flatQ_snoc {qs : List Nat} {y : Nat} {a b : Int} (h1 : a = ((y / 4 : Nat) : Int)) (h2 : b = ((y % 4 : Nat) : Int)) : qs.flatMap encQ ++ [iv a, iv b] = (qs ++ [y]).flatMap encQ := by
  subst h1; subst h2
  rw [List.flatMap_append]; rfl
end Go.V
/- Diagrams as data, part b: connected crossings, pieces, the planar diagrams. -/
namespace Go.V
open Go
inductive Conn (d : Dia) (a : Nat) : Nat → Prop
  | refl : Conn d a a
  | step {c p : Nat} (h : Conn d a c) (hp : p < 4) : Conn d a (otherQ d (4 * c + p) / 4)
theorem Conn.lt {d : Dia} (hs : SoundP d) {a c : Nat} (ha : a < d.cross.length) (h : Conn d a c) : c < d.cross.length := by
  induction h with
  | refl => exact ha
  | @step c p h hp ih => have := hs.other_lt (q := 4 * c + p) (by omega); omega
theorem Conn.trans {d : Dia} {a b c : Nat} (h : Conn d a b) (k : Conn d b c) : Conn d a c := by
  induction k with
  | refl => exact h
  | step _ hp ih => exact ih.step hp
theorem Conn.back1 {d : Dia} (hs : SoundP d) {c p : Nat} (hc : c < d.cross.length) (hp : p < 4) : Conn d (otherQ d (4 * c + p) / 4) c := by
  have hq : 4 * c + p < 4 * d.cross.length := by omega
  have h1 := hs.other_lt hq
  have h2 := hs.other_other hq
  have h3 := Conn.step (d := d) (a := otherQ d (4 * c + p) / 4) (p := otherQ d (4 * c + p) % 4) .refl (by omega)
  rw [show 4 * (otherQ d (4 * c + p) / 4) + otherQ d (4 * c + p) % 4 = otherQ d (4 * c + p) by omega, h2, show (4 * c + p) / 4 = c by omega] at h3
  exact h3
theorem Conn.symm {d : Dia} (hs : SoundP d) {a c : Nat} (ha : a < d.cross.length) (h : Conn d a c) : Conn d c a := by
  induction h with
  | refl => exact .refl
  | step h hp ih => exact (Conn.back1 hs (h.lt hs ha) hp).trans ih
noncomputable def connB (d : Dia) (a c : Nat) : Bool := @decide (Conn d a c) (Classical.propDecidable _)
theorem connB_iff {d : Dia} {a c : Nat} : connB d a c = true ↔ Conn d a c := @decide_eq_true_iff _ (Classical.propDecidable _)
theorem connB_false {d : Dia} {a c : Nat} : connB d a c = false ↔ ¬ Conn d a c := @decide_eq_false_iff_not _ (Classical.propDecidable _)
noncomputable def pieceOf (d : Dia) (a : Nat) : List Nat := (List.range d.cross.length).filter (connB d a)
theorem conn_congr {d : Dia} (hs : SoundP d) {a b : Nat} (ha : a < d.cross.length) (h : Conn d a b) (c : Nat) : connB d a c = connB d b c := by
  by_cases hc : Conn d a c
  · rw [connB_iff.2 hc, connB_iff.2 ((h.symm hs ha).trans hc)]
  · rw [connB_false.2 hc, connB_false.2 (fun k => hc (h.trans k))]
theorem piece_congr {d : Dia} (hs : SoundP d) {a b : Nat} (ha : a < d.cross.length) (h : Conn d a b) : pieceOf d a = pieceOf d b := by
  simp only [pieceOf]; exact congrArg (fun f => List.filter f _) (funext (conn_congr hs ha h))
theorem mem_piece {d : Dia} {a c : Nat} : c ∈ pieceOf d a ↔ c < d.cross.length ∧ Conn d a c := by simp [pieceOf, connB_iff]
theorem piece_self {d : Dia} {a : Nat} (ha : a < d.cross.length) : a ∈ pieceOf d a := mem_piece.2 ⟨ha, .refl⟩
theorem piece_nodup (d : Dia) (a : Nat) : (pieceOf d a).Nodup := List.Nodup.sublist List.filter_sublist List.nodup_range
/-! ### The closure that the reference works out -/
def Cl (d : Dia) (xs : List Bool) (c p : Nat) : Prop := xs[c]? = some true → xs[otherQ d (4 * c + p) / 4]? = some true
def falses (xs : List Bool) : Nat := (xs.filter fun b => !b).length
theorem falses_set {xs : List Bool} : ∀ {i : Nat}, xs[i]? = some false → falses (xs.set i true) + 1 = falses xs := by
  induction xs with
  | nil => intro i h; simp at h
  | cons b r ih =>
    intro i h
    cases i with
    | zero => simp at h; subst h; simp [falses]
    | succ i =>
      have := ih (i := i) (by simpa using h)
      simp only [falses, List.set_cons_succ, List.filter_cons] at this ⊢
      cases b <;> simp <;> omega
theorem closed_conn {d : Dia} (hs : SoundP d) {a : Nat} {xs : List Bool} (ha : a < d.cross.length) (hxs : xs.length = d.cross.length) (h0 : xs[a]? = some true) (hc : ∀ c, xs[c]? = some true → Conn d a c) (hcl : ∀ c p, c < d.cross.length → p < 4 → Cl d xs c p) (c : Nat) (hlt : c < d.cross.length) :
    xs[c]? = some (connB d a c) := by
  have key : ∀ c, Conn d a c → xs[c]? = some true := by
    intro c h
    induction h with
    | refl => exact h0
    | step h hp ih => exact hcl _ _ (h.lt hs ha) hp ih
  obtain ⟨y, hy⟩ := get_of_lt (l := xs) (i := c) (by omega)
  rw [hy]
  cases y
  · rw [connB_false.2 (fun k => by rw [key c k] at hy; cases hy)]
  · rw [connB_iff.2 (hc c hy)]
/-! ### Planar diagrams -/
noncomputable def cntReg (d : Dia) (a : Nat) : Nat := ((regsOf d).filter fun r => connB d a (r.headD 0 / 4)).length
def PlanarP (d : Dia) : Prop := ∀ c, c < d.cross.length → cntReg d c = (pieceOf d c).length + 2
theorem cntReg_congr {d : Dia} (hs : SoundP d) {a b : Nat} (ha : a < d.cross.length) (h : Conn d a b) : cntReg d a = cntReg d b := by
  simp only [cntReg, conn_congr hs ha h]
theorem regionOf_head {d : Dia} {q : Nat} (h : 0 < d.cross.length) : (regionOf d q).headD 0 = q ∧ 0 < (regionOf d q).length := by
  simp only [regionOf]
  obtain ⟨k, hk⟩ : ∃ k, 4 * d.cross.length = k + 1 := ⟨4 * d.cross.length - 1, by omega⟩
  rw [hk, orbGo]; simp
theorem piece_first (d : Dia) {c : Nat} (hc : c < d.cross.length) : ∃ m, (pieceOf d c)[0]? = some m := by
  have := piece_self (d := d) hc
  cases h : pieceOf d c with
  | nil => rw [h] at this; cases this
  | cons m r => exact ⟨m, rfl⟩
theorem piece_len (d : Dia) (c : Nat) : (pieceOf d c).length ≤ d.cross.length := by
  have := List.length_filter_le (connB d c) (List.range d.cross.length); rwa [List.length_range] at this
theorem piece_sorted (d : Dia) (c : Nat) : (pieceOf d c).Pairwise (· < ·) := List.Pairwise.sublist List.filter_sublist List.pairwise_lt_range
theorem piece_head_le {d : Dia} {c m x : Nat} (hm : (pieceOf d c)[0]? = some m) (hx : x ∈ pieceOf d c) : m ≤ x := by
  have hs := piece_sorted d c
  cases h : pieceOf d c with
  | nil => rw [h] at hx; cases hx
  | cons y r =>
    rw [h] at hm hx hs
    simp at hm; subst hm
    rcases List.mem_cons.1 hx with rfl | hx
    · exact Nat.le_refl _
    · exact Nat.le_of_lt (List.rel_of_pairwise_cons hs hx)
theorem planar_other {d : Dia} (hs : SoundP d) {c m : Nat} (hc : c < d.cross.length) (hm : (pieceOf d c)[0]? = some m) (h : ∀ c', c' < c → cntReg d c' = (pieceOf d c').length + 2) (hne : (m : Int) ≠ (c : Int)) : cntReg d c = (pieceOf d c).length + 2 := by
  have h1 := piece_head_le hm (piece_self hc)
  have h2 := mem_piece.1 (List.mem_of_getElem? hm)
  rw [cntReg_congr hs hc h2.2, piece_congr hs hc h2.2]
  exact h m (by omega)
theorem regs_head {d : Dia} {Q : Nat} {rs : List (Value × List Nat)} (hr : rs.map Prod.snd = regsTo d Q) (hQ : Q ≤ 4 * d.cross.length) {a : Value × List Nat} (ha : a ∈ rs) : a.2.headD 0 / 4 < d.cross.length ∧ a.2[0]? = some (a.2.headD 0) := by
  obtain ⟨q, hq, e⟩ := regsTo_mem d Q a.2 (by rw [← hr]; exact List.mem_map_of_mem ha)
  obtain ⟨h1, h2⟩ := regionOf_head (d := d) (q := q) (by omega)
  rw [e, h1]
  refine ⟨by omega, ?_⟩
  cases hl : regionOf d q with
  | nil => rw [hl] at h2; simp at h2
  | cons x r => rw [hl] at h1; simp at h1; simp [h1]
theorem piece_has {d : Dia} {c x : Nat} (hx : x < d.cross.length) : (pieceOf d c).contains x = connB d c x := by
  cases h : connB d c x
  · refine Bool.eq_false_iff.2 fun h2 => ?_
    have := (mem_piece.1 (List.contains_iff_mem.1 h2)).2
    rw [connB_iff.2 this] at h; cases h
  · exact List.contains_iff_mem.2 (mem_piece.2 ⟨hx, connB_iff.1 h⟩)
theorem take_has {l : List Nat} {k y x : Nat} (hy : l[k]? = some y) : (l.take (k + 1)).contains x = ((l.take k).contains x || decide (x = y)) := by
  rw [List.take_add_one, hy, List.contains_eq_mem, List.contains_eq_mem]; simp [Bool.decide_or]
theorem take_fresh {l : List Nat} (hn : l.Nodup) {k y x : Nat} (hy : l[k]? = some y) (e : x = y) : (l.take k).contains x = false := by
  subst e
  refine Bool.eq_false_iff.2 fun h => ?_
  obtain ⟨i, hi⟩ := List.getElem?_of_mem (List.contains_iff_mem.1 h)
  have hik : i < k := by have := (List.getElem?_eq_some_iff.1 hi).1; simp at this; omega
  rw [List.getElem?_take_of_lt hik] at hi
  obtain ⟨h1, e1⟩ := (List.getElem?_eq_some_iff.1 hi)
  obtain ⟨h2, e2⟩ := (List.getElem?_eq_some_iff.1 hy)
  exact (List.pairwise_iff_getElem.1 (List.nodup_iff_pairwise_ne.1 hn)) i k h1 h2 hik (e1.trans e2.symm)
theorem cntReg_rs {d : Dia} {rs : List (Value × List Nat)} (hr : rs.map Prod.snd = regsOf d) (c : Nat) : cntReg d c = (rs.filter fun a => connB d c (a.2.headD 0 / 4)).length := by
  rw [cntReg, ← hr, List.filter_map, List.length_map]; rfl
noncomputable def planarB (d : Dia) : Bool := @decide (PlanarP d) (Classical.propDecidable _)
theorem planarB_true {d : Dia} (h : PlanarP d) : Value.bool true = .bool (planarB d) := congrArg Value.bool (@decide_eq_true _ (Classical.propDecidable _) h).symm
theorem planarB_false {d : Dia} (h : ¬ PlanarP d) : Value.bool false = .bool (planarB d) := congrArg Value.bool (@decide_eq_false _ (Classical.propDecidable _) h).symm
theorem planarB_iff {d : Dia} : planarB d = true ↔ PlanarP d := @decide_eq_true_iff _ (Classical.propDecidable _)
/-- What Check answers: 0, 220 or 221. -/
noncomputable def checkI (d : Dia) : Int := bif soundB d then (bif planarB d then 0 else 221) else 220
end Go.V
/- Diagrams as data, part c: the ends of arcs, as the program keeps them. -/
namespace Go.V
open Go
def plV (q : Nat) : Value := .agg #[iv ((q / 4 : Nat) : Int), iv ((q % 4 : Nat) : Int)]
def keyQ (d : Dia) (q : Nat) : Int × Bool := (arcQ d q, !innQ d q)
def metTo (d : Dia) (Q : Nat) : List ((Int × Bool) × Value) := (List.range Q).map fun q => (keyQ d q, plV q)
theorem mget_map {κ : Type} [DecidableEq κ] {α : Type} (f : α → κ) (g : α → Value) (k : κ) : ∀ l : List α, mget (l.map fun q => (f q, g q)) k = (l.find? fun q => decide (f q = k)).map g
  | [] => rfl
  | q :: r => by
    simp only [List.map_cons, mget, List.find?_cons]
    by_cases h : f q = k
    · simp [h]
    · simp [h, mget_map f g k r]
theorem find_congr {α : Type} {f g : α → Bool} : ∀ {l : List α}, (∀ x ∈ l, f x = g x) → l.find? f = l.find? g
  | [], _ => rfl
  | x :: r, h => by
    rw [List.find?_cons, List.find?_cons, h x (List.mem_cons_self ..), find_congr fun y hy => h y (List.mem_cons_of_mem _ hy)]
theorem mget_met {d : Dia} {Q : Nat} (hQ : Q ≤ 4 * d.cross.length) (a : Int) (o : Bool) : mget (metTo d Q) (a, o) = ((List.range Q).find? (matchAt d a (!o))).map plV := by
  rw [metTo, mget_map]
  congr 1
  refine find_congr fun q hq => ?_
  have hq : q < 4 * d.cross.length := by have := List.mem_range.1 hq; omega
  rw [Bool.eq_iff_iff, matchAt_iff hq, decide_eq_true_iff, keyQ, Prod.mk.injEq]
  cases o <;> cases innQ d q <;> simp
def rC : Option Nat → Int
  | some q => ((q / 4 : Nat) : Int)
  | none => 0
def rP : Option Nat → Int
  | some q => ((q % 4 : Nat) : Int)
  | none => 0
def metAt (d : Dia) (Q : Nat) (a : Int) (o : Bool) : Option Nat := (List.range Q).find? (matchAt d a (!o))
theorem met_val {d : Dia} {Q : Nat} (hQ : Q ≤ 4 * d.cross.length) (a : Int) (o : Bool) : (mget (metTo d Q) (a, o)).getD (.agg #[iv 0, iv 0]) = .agg #[iv (rC (metAt d Q a o)), iv (rP (metAt d Q a o))] := by
  rw [mget_met hQ, metAt]
  cases (List.range Q).find? (matchAt d a (!o)) <;> rfl
theorem met_is {d : Dia} {Q : Nat} (hQ : Q ≤ 4 * d.cross.length) (a : Int) (o : Bool) : (mget (metTo d Q) (a, o)).isSome = (metAt d Q a o).isSome := by
  rw [mget_met hQ, metAt]; cases (List.range Q).find? (matchAt d a (!o)) <;> rfl
theorem metAt_some {d : Dia} {Q : Nat} (hQ : Q ≤ 4 * d.cross.length) {a : Int} {o : Bool} (h : (metAt d Q a o).isSome = true) : ∃ q, q < Q ∧ arcQ d q = a ∧ innQ d q = !o := by
  obtain ⟨q, hq⟩ := Option.isSome_iff_exists.1 h
  have h1 := List.mem_range.1 (List.mem_of_find?_eq_some hq)
  have h2 := List.find?_some hq
  exact ⟨q, h1, (matchAt_iff (by omega)).1 h2⟩
theorem metAt_none {d : Dia} {Q : Nat} (hQ : Q ≤ 4 * d.cross.length) {a : Int} {o : Bool} (h : (metAt d Q a o).isSome = false) {q : Nat} (hq : q < Q) : ¬ (arcQ d q = a ∧ innQ d q = !o) := fun k => by
  have h1 : metAt d Q a o = none := by simpa using h
  rw [metAt, List.find?_eq_none] at h1
  exact h1 q (List.mem_range.2 hq) ((matchAt_iff (by omega)).2 k)
theorem arcQ_at {d : Dia} {c p : Nat} {x : Cr} (hx : d.cross[c]? = some x) (hp : p < 4) : arcQ d (4 * c + p) = x.arc p := by
  rw [arcQ, show (4 * c + p) / 4 = c by omega, show (4 * c + p) % 4 = p by omega, crAt_eq hx]
theorem innQ_at {d : Dia} {c p : Nat} {x : Cr} (hx : d.cross[c]? = some x) (hp : p < 4) : innQ d (4 * c + p) = x.inn p := by
  rw [innQ, show (4 * c + p) / 4 = c by omega, show (4 * c + p) % 4 = p by omega, crAt_eq hx]
theorem met_next {d : Dia} {c p : Nat} {x : Cr} (hx : d.cross[c]? = some x) (hp : p < 4) (hn : (metAt d (4 * c + p) (x.arc p) (!x.inn p)).isSome = false) :
    mput (metTo d (4 * c + p)) (x.arc p, !x.inn p) (.agg #[iv c, iv p]) = metTo d (4 * c + (p + 1)) := by
  have hc := (List.getElem?_eq_some_iff.1 hx).1
  rw [← met_is (by omega)] at hn
  rw [mput_new (by simpa using hn)]
  rw [show 4 * c + (p + 1) = 4 * c + p + 1 by omega, metTo, metTo, List.range_succ, List.map_append, List.map_cons, List.map_nil, keyQ, arcQ_at hx hp, innQ_at hx hp, plV,
    show (4 * c + p) / 4 = c by omega, show (4 * c + p) % 4 = p by omega]
/-- The first Q places use arcs in range, each one once each way. -/
def UseOk (d : Dia) (Q : Nat) : Prop := (∀ q, q < Q → 0 ≤ arcQ d q ∧ arcQ d q < 2 * d.cross.length) ∧ ∀ q q', q < q' → q' < Q → arcQ d q = arcQ d q' → innQ d q = innQ d q' → False
theorem UseOk.zero (d : Dia) : UseOk d 0 := ⟨fun q h => by omega, fun q q' h h' => by omega⟩
theorem UseOk.next {d : Dia} {c p : Nat} {x : Cr} (h : UseOk d (4 * c + p)) (hx : d.cross[c]? = some x) (hp : p < 4) (hn : (metAt d (4 * c + p) (x.arc p) (!x.inn p)).isSome = false) (h0 : 0 ≤ x.arc p) (h1 : x.arc p < 2 * d.cross.length) : UseOk d (4 * c + (p + 1)) := by
  have hc := (List.getElem?_eq_some_iff.1 hx).1
  refine ⟨fun q hq => ?_, fun q q' hqq hq ha hi => ?_⟩
  · rcases Nat.lt_or_ge q (4 * c + p) with h2 | h2
    · exact h.1 q h2
    · obtain rfl : q = 4 * c + p := by omega
      rw [arcQ_at hx hp]; exact ⟨h0, h1⟩
  · rcases Nat.lt_or_ge q' (4 * c + p) with h2 | h2
    · exact h.2 q q' hqq h2 ha hi
    · obtain rfl : q' = 4 * c + p := by omega
      rw [arcQ_at hx hp] at ha
      rw [innQ_at hx hp] at hi
      exact metAt_none (by omega) hn hqq ⟨ha, by rw [hi, Bool.not_not]⟩
theorem nodup_one {α : Type} {l : List α} (hn : l.Nodup) (h : ∀ x ∈ l, ∀ y ∈ l, x = y) : l.length ≤ 1 := by
  match l, hn, h with
  | [], _, _ => simp
  | [_], _, _ => simp
  | x :: y :: r, hn, h =>
    have e := h x (by simp) y (by simp)
    subst e
    simp at hn
theorem useOk_count {d : Dia} (h : UseOk d (4 * d.cross.length)) {a : Nat} (ha : a < 2 * d.cross.length) (inn : Bool) : cnt d (a : Int) inn (4 * d.cross.length) = 1 := by
  have hle : cnt d (a : Int) inn (4 * d.cross.length) ≤ 1 := by
    refine nodup_one (List.Nodup.sublist List.filter_sublist List.nodup_range) fun q hq q' hq' => ?_
    rw [List.mem_filter, List.mem_range] at hq hq'
    have h1 := (matchAt_iff hq.1).1 hq.2
    have h2 := (matchAt_iff hq'.1).1 hq'.2
    rcases Nat.lt_trichotomy q q' with h3 | h3 | h3
    · exact (h.2 q q' h3 hq'.1 (h1.1.trans h2.1.symm) (h1.2.trans h2.2.symm)).elim
    · exact h3
    · exact (h.2 q' q h3 hq.1 (h2.1.trans h1.1.symm) (h2.2.trans h1.2.symm)).elim
  -- all pairs are met
  let K := (List.range (4 * d.cross.length)).map fun q => 2 * (arcQ d q).toNat + (if innQ d q then 1 else 0)
  have hK : K.Nodup := by
    rw [List.nodup_iff_pairwise_ne]
    refine (List.pairwise_map.2 (List.Pairwise.imp_of_mem ?_ List.pairwise_lt_range))
    intro q q' hq hq' hlt e
    have h1 := h.1 q (List.mem_range.1 hq)
    have h2 := h.1 q' (List.mem_range.1 hq')
    refine h.2 q q' hlt (List.mem_range.1 hq') ?_ ?_
    · split at e <;> split at e <;> omega
    · cases hi : innQ d q <;> cases hi' : innQ d q' <;> simp [hi, hi'] at e ⊢ <;> omega
  have hmem : 2 * a + (if inn then 1 else 0) ∈ K := by
    refine Classical.byContradiction fun hno => ?_
    have hsub : K ⊆ (List.range (4 * d.cross.length)).erase (2 * a + (if inn then 1 else 0)) := by
      intro y hy
      have hne : y ≠ 2 * a + (if inn then 1 else 0) := fun e => hno (e ▸ hy)
      rw [List.mem_erase_of_ne hne, List.mem_range]
      obtain ⟨q, hq, rfl⟩ := List.mem_map.1 hy
      have h1 := h.1 q (List.mem_range.1 hq)
      split <;> omega
    have hl := List.Nodup.length_le_of_subset hK hsub
    have hin : 2 * a + (if inn then 1 else 0) ∈ List.range (4 * d.cross.length) := List.mem_range.2 (by split <;> omega)
    rw [List.length_erase_of_mem hin, List.length_range] at hl
    simp only [K, List.length_map, List.length_range] at hl
    omega
  obtain ⟨q, hq, e⟩ := List.mem_map.1 hmem
  have hq := List.mem_range.1 hq
  have h1 := h.1 q hq
  have hm : matchAt d (a : Int) inn q = true := by
    rw [matchAt_iff hq]
    cases hi : innQ d q <;> cases inn <;> simp [hi] at e ⊢ <;> omega
  have : 0 < cnt d (a : Int) inn (4 * d.cross.length) := List.length_pos_of_mem (List.mem_filter.2 ⟨List.mem_range.2 hq, hm⟩)
  omega
theorem sound_of_use {d : Dia} (h0 : d.cross.length ≤ 200) (h1 : 0 ≤ d.loops) (h2 : d.loops ≤ 200) (hs : ∀ (c : Nat) (x : Cr), d.cross[c]? = some x → x.s = 1 ∨ x.s = -1) (h : UseOk d (4 * d.cross.length)) : SoundP d := by
  refine ⟨h0, h1, h2, fun x hx => ?_, fun a ha => ⟨useOk_count h ha false, useOk_count h ha true⟩⟩
  obtain ⟨c, hc⟩ := List.getElem?_of_mem hx
  refine ⟨hs c x hc, fun p hp => ?_⟩
  have hlt := (List.getElem?_eq_some_iff.1 hc).1
  have := h.1 (4 * c + p) (by omega)
  rwa [arcQ_at hc hp] at this
theorem not_sound_twice {d : Dia} {c p : Nat} {x : Cr} (hx : d.cross[c]? = some x) (hp : p < 4) (hn : (metAt d (4 * c + p) (x.arc p) (!x.inn p)).isSome = true) : ¬ SoundP d := fun hs => by
  have hc := (List.getElem?_eq_some_iff.1 hx).1
  obtain ⟨q, hq, ha, hi⟩ := metAt_some (by omega) hn
  have := hs.place_unique (q := q) (q' := 4 * c + p) (by omega) (by omega) (by rw [ha, arcQ_at hx hp]) (by rw [hi, innQ_at hx hp, Bool.not_not])
  omega
/-! ### The list of ends -/
abbrev AE := Option Nat × Option Nat
def encAE (x : AE) : List Value := [iv (rC x.1), iv (rP x.1), iv (rC x.2), iv (rP x.2)]
theorem encAE_len (x : AE) : (encAE x).length = 4 := rfl
def endsAt (d : Dia) (i : Nat) : AE := (findEnd d (i : Int) false, findEnd d (i : Int) true)
def endsTo (d : Dia) (a : Nat) : List AE := (List.range (2 * d.cross.length)).map fun i => if i < a then endsAt d i else (none, none)
def endsL (d : Dia) : List AE := (List.range (2 * d.cross.length)).map (endsAt d)
theorem endsTo_len (d : Dia) (a : Nat) : (endsTo d a).length = 2 * d.cross.length := by simp [endsTo]
theorem endsL_len (d : Dia) : (endsL d).length = 2 * d.cross.length := by simp [endsL]
theorem endsL_get {d : Dia} {a : Nat} (h : a < 2 * d.cross.length) : (endsL d)[a]? = some (endsAt d a) := by simp [endsL, h]
theorem endsTo_all (d : Dia) : endsTo d (2 * d.cross.length) = endsL d := by
  simp only [endsTo, endsL]
  exact List.map_congr_left fun i hi => by rw [if_pos (List.mem_range.1 hi)]
theorem endsTo_set {d : Dia} {a : Nat} (ha : a < 2 * d.cross.length) : (endsTo d a).set a (endsAt d a) = endsTo d (a + 1) := by
  apply List.ext_getElem?
  intro i
  rw [List.getElem?_set, endsTo_len]
  by_cases h : i < 2 * d.cross.length
  · by_cases e : a = i
    · subst e; simp [endsTo, h]
    · simp only [if_neg e, endsTo, List.getElem?_map, List.getElem?_range h, Option.map_some]
      have : (i < a) ↔ (i < a + 1) := by omega
      simp [this]
  · rw [if_neg (by omega), List.getElem?_eq_none (by simp [endsTo_len]; omega), List.getElem?_eq_none (by simp [endsTo_len]; omega)]
theorem flatMap_const {α β : Type} (l : List α) (z : List β) : l.flatMap (fun _ => z) = (List.replicate l.length z).flatten := by
  induction l with
  | nil => rfl
  | cons x r ih => simp [List.flatMap_cons, ih, List.replicate_succ]
theorem endsTo_zero (d : Dia) : (zeros (2 * d.cross.length) [iv 0, iv 0, iv 0, iv 0]).toList = (endsTo d 0).flatMap encAE := by
  rw [endsTo, List.flatMap_map]
  simp only [zeros, Nat.not_lt_zero, if_false]
  rw [flatMap_const, List.length_range]
  rfl
theorem arc_index {x : Cr} {p : Nat} (hp : p < 4) : (#[iv x.a0, iv x.a1, iv x.a2, iv x.a3])[((p : Nat) : Int).toNat]? = some (iv (x.arc p)) := by
  match p, hp with
  | 0, _ => rfl
  | 1, _ => rfl
  | 2, _ => rfl
  | 3, _ => rfl
theorem out_inn {x : Cr} {p : Nat} (hp : p < 4) (hs : x.s = 1 ∨ x.s = -1) : x.inn p = decide (¬ (p = 2 ∨ (p : Int) = 2 - x.s)) := by
  rw [Cr.inn]; apply decide_eq_decide.2; omega
/-- A valid place of the program: the struct 'diagram' in block b. -/
structure DgAt (w : World) (b : Nat) (base : Option Addr) (A : Addr) (cap : Nat) (d : Dia) (av : Value) : Prop where
  c0 : w.cell? ⟨b, 0, none⟩ = some (.slice base d.cross.length cap)
  c1 : w.cell? ⟨b, 1, none⟩ = some (iv d.loops)
  c2 : w.cell? ⟨b, 2, none⟩ = some av
  dia : DiaAt w base A d
  sh : Shape av (2 * d.cross.length)
  arcs : Cells w (vaddr av) ((endsL d).flatMap encAE)
theorem DgAt.old {w w' : World} {b : Nat} {base : Option Addr} {A : Addr} {cap : Nat} {d : Dia} {av : Value} (h : DgAt w b base A cap d av) (ho : Old Nil w w') : DgAt w' b base A cap d av :=
  ⟨ho.cell h.c0 (fun x => x), ho.cell h.c1 (fun x => x), ho.cell h.c2 (fun x => x), h.dia.old ho, h.sh, fun j v hj => ho.cell (h.arcs j v hj) (fun x => x)⟩
theorem DgAt.sym {w w' : World} {L : List HL} {b : Nat} {base : Option Addr} {A : Addr} {cap : Nat} {d : Dia} {av : Value} (h : DgAt w b base A cap d av) (hs : Sym w Nil L w') : DgAt w' b base A cap d av := h.old hs.old
abbrev ptrV (b : Nat) : Value := .pointer (some ⟨b, 0, none⟩)
abbrev plcV (q : Nat) : Value := .agg #[iv ((q / 4 : Nat) : Int), iv ((q % 4 : Nat) : Int)]
theorem SoundP.find_self {d : Dia} (hs : SoundP d) {q : Nat} (hq : q < 4 * d.cross.length) : findEnd d (V.arcQ d q) (innQ d q) = some q := by
  obtain ⟨r, hr⟩ := hs.find (a := (V.arcQ d q).toNat) (by have := hs.arcQ hq; omega) (innQ d q)
  rw [Int.toNat_of_nonneg (hs.arcQ hq).1] at hr
  have h := findEnd_some hr
  rw [hr, hs.place_unique h.1 hq h.2.1 h.2.2.1]
theorem SoundP.ends_at {d : Dia} (hs : SoundP d) {q : Nat} (hq : q < 4 * d.cross.length) : (otherQ d q ≠ q) ∧ ((endsAt d (V.arcQ d q).toNat).1 = some q ∧ (endsAt d (V.arcQ d q).toNat).2 = some (otherQ d q) ∨ (endsAt d (V.arcQ d q).toNat).1 = some (otherQ d q) ∧ (endsAt d (V.arcQ d q).toNat).2 = some q) := by
  have h1 := hs.find_self hq
  have h2 := hs.other hq
  have h3 := (findEnd_some h2).2.2.1
  refine ⟨fun e => by rw [e] at h3; cases h : innQ d q <;> simp [h] at h3, ?_⟩
  simp only [endsAt]
  rw [Int.toNat_of_nonneg (hs.arcQ hq).1]
  cases h : innQ d q
  · rw [h] at h1 h2; exact .inl ⟨h1, h2⟩
  · rw [h] at h1 h2; exact .inr ⟨h2, h1⟩
/-- What 'ends' gives. -/
noncomputable def endsN (d : Dia) : Nat := bif soundB d then 2 * d.cross.length else 0
noncomputable def endsC (d : Dia) : List Value := bif soundB d then (endsL d).flatMap encAE else []
end Go.V
/- Diagrams as data, part d: the pieces as the program numbers them. -/
namespace Go.V
open Go
/-- Some pieces are numbered, wholly. -/
structure PInv (d : Dia) (os : List Int) (k : Nat) : Prop where
  len : os.length = d.cross.length
  lo : ∀ (c : Nat) (x : Int), os[c]? = some x → -1 ≤ x ∧ x < k
  cls : ∀ (c c' : Nat) (x : Int), os[c]? = some x → 0 ≤ x → c' < d.cross.length → (os[c']? = some x ↔ Conn d c c')
  onto : ∀ j : Nat, j < k → ∃ c : Nat, os[c]? = some (j : Int)
theorem PInv.zero (d : Dia) : PInv d (List.replicate d.cross.length (-1)) 0 where
  len := by simp
  lo c x h := by rw [List.getElem?_replicate] at h; split at h <;> simp at h; omega
  cls c c' x h h0 := by rw [List.getElem?_replicate] at h; split at h <;> simp at h; omega
  onto j h := by omega
structure BInv (d : Dia) (os0 os : List Int) (n i : Nat) (qs : List Nat) : Prop where
  len : os.length = d.cross.length
  old : ∀ (c : Nat) (x : Int), os0[c]? = some x → 0 ≤ x → os[c]? = some x
  new : ∀ c : Nat, c ∈ qs ↔ os[c]? = some (n : Int)
  other : ∀ (c : Nat) (x : Int), os[c]? = some x → x ≠ (n : Int) → os0[c]? = some x
  conn : ∀ c ∈ qs, Conn d i c
  nodup : qs.Nodup
  start : i ∈ qs
theorem BInv.begin {d : Dia} {os0 : List Int} {n i : Nat} {x : Int} (hP : PInv d os0 n) (hi : os0[i]? = some x) (hx : x < 0) : BInv d os0 (os0.set i (n : Int)) n i [i] where
  len := by simpa using hP.len
  old c y h h0 := by
    rw [List.getElem?_set]
    split
    · rename_i e; subst e; rw [hi] at h; cases h; omega
    · exact h
  new c := by
    have hlt := (List.getElem?_eq_some_iff.1 hi).1
    rw [List.getElem?_set, List.mem_singleton]
    by_cases e : i = c
    · simp [e]; subst e; exact hlt
    · rw [if_neg e]
      constructor
      · intro h; exact absurd h.symm e
      · intro h; have := (hP.lo c _ h).2; omega
  other c y h hne := by
    rw [List.getElem?_set] at h
    split at h
    · split at h
      · simp at h; omega
      · cases h
    · exact h
  conn c hc := by rw [List.mem_singleton.1 hc]; exact .refl
  nodup := by simp
  start := by simp
/-- A neighbour that is numbered lies in the queue. -/
theorem BInv.there {d : Dia} {os0 os : List Int} {n i : Nat} {qs : List Nat} (hs : SoundP d) (hP : PInv d os0 n) (h : BInv d os0 os n i qs) {c p : Nat} (hc : c ∈ qs) (hcl : c < d.cross.length) (hp : p < 4) {x : Int} (hx : os[otherQ d (4 * c + p) / 4]? = some x) (h0 : 0 ≤ x) : otherQ d (4 * c + p) / 4 ∈ qs := by
  by_cases e : x = (n : Int)
  · rw [h.new, hx, e]
  · have h1 := h.other _ _ hx e
    have h2 := (hP.cls _ c x h1 h0 hcl).2 (Conn.back1 hs hcl hp)
    have h3 := h.old c x h2 h0
    have h4 := (h.new c).1 hc
    rw [h3] at h4
    exact absurd (Option.some.inj h4) e
theorem BInv.add {d : Dia} {os0 os : List Int} {n i : Nat} {qs : List Nat} (_ : PInv d os0 n) (h : BInv d os0 os n i qs) {c p : Nat} (hc : c ∈ qs) (hp : p < 4) {x : Int} (hx : os[otherQ d (4 * c + p) / 4]? = some x) (h0 : x < 0) :
    BInv d os0 (os.set (otherQ d (4 * c + p) / 4) (n : Int)) n i (qs ++ [otherQ d (4 * c + p) / 4]) where
  len := by simpa using h.len
  old c' y h1 h2 := by
    have h3 := h.old c' y h1 h2
    rw [List.getElem?_set]
    split
    · rename_i e; subst e; rw [hx] at h3; cases h3; omega
    · exact h3
  new c' := by
    have hlt := (List.getElem?_eq_some_iff.1 hx).1
    rw [List.getElem?_set, List.mem_append, List.mem_singleton, h.new]
    by_cases e : otherQ d (4 * c + p) / 4 = c'
    · simp [e]; subst e; exact hlt
    · rw [if_neg e]
      constructor
      · rintro (h1 | h1)
        · exact h1
        · exact absurd h1.symm e
      · exact .inl
  other c' y h1 hne := by
    rw [List.getElem?_set] at h1
    split at h1
    · split at h1
      · simp at h1; omega
      · cases h1
    · exact h.other c' y h1 hne
  conn c' hc' := by
    rcases List.mem_append.1 hc' with h1 | h1
    · exact h.conn c' h1
    · rw [List.mem_singleton.1 h1]; exact (h.conn c hc).step hp
  nodup := by
    rw [List.nodup_append]
    refine ⟨h.nodup, by simp, fun a ha b hb e => ?_⟩
    rw [List.mem_singleton.1 hb] at e
    subst e
    have := (h.new _).1 ha
    rw [hx] at this; cases this; omega
  start := List.mem_append.2 (.inl h.start)
/-- The queue is worked through up to place k, there up to p. -/
def QDone (d : Dia) (qs : List Nat) (k p : Nat) : Prop := (∀ j c p', qs[j]? = some c → j < k → p' < 4 → otherQ d (4 * c + p') / 4 ∈ qs) ∧ ∀ c p', qs[k]? = some c → p' < p → otherQ d (4 * c + p') / 4 ∈ qs
theorem QDone.zero (d : Dia) (qs : List Nat) : QDone d qs 0 0 := ⟨fun j c p' _ h => by omega, fun c p' _ h => by omega⟩
theorem QDone.app {d : Dia} {qs : List Nat} {k p : Nat} (h : QDone d qs k p) (hk : k < qs.length) (y : Nat) : QDone d (qs ++ [y]) k p :=
  ⟨fun j c p' hj hjk hp => List.mem_append.2 (.inl (h.1 j c p' (by rw [List.getElem?_append_left (by omega)] at hj; exact hj) hjk hp)),
   fun c p' hc hp => List.mem_append.2 (.inl (h.2 c p' (by rw [List.getElem?_append_left hk] at hc; exact hc) hp))⟩
theorem QDone.next {d : Dia} {qs : List Nat} {k p c : Nat} (h : QDone d qs k p) (hc : qs[k]? = some c) (hm : otherQ d (4 * c + p) / 4 ∈ qs) : QDone d qs k (p + 1) :=
  ⟨h.1, fun c' p' hc' hp => by
    rcases Nat.lt_or_ge p' p with h1 | h1
    · exact h.2 c' p' hc' h1
    · obtain rfl : p' = p := by omega
      rw [hc] at hc'; cases hc'; exact hm⟩
theorem QDone.row {d : Dia} {qs : List Nat} {k : Nat} (h : QDone d qs k 4) : QDone d qs (k + 1) 0 :=
  ⟨fun j c p' hj hjk hp => by
    rcases Nat.lt_or_ge j k with h1 | h1
    · exact h.1 j c p' hj h1 hp
    · obtain rfl : j = k := by omega
      exact h.2 c p' hj hp, fun c p' _ hp => by omega⟩
theorem BInv.done {d : Dia} {os0 os : List Int} {n i : Nat} {qs : List Nat} (hs : SoundP d) (hP : PInv d os0 n) (h : BInv d os0 os n i qs) (hi : i < d.cross.length) {k : Nat} (hk : qs.length ≤ k) (hq : QDone d qs k 0) : PInv d os (n + 1) := by
  have hall : ∀ c, Conn d i c → c ∈ qs := by
    intro c hc
    induction hc with
    | refl => exact h.start
    | @step c p hc hp ih =>
      obtain ⟨j, hj⟩ := List.getElem?_of_mem ih
      exact hq.1 j c p hj (by have := (List.getElem?_eq_some_iff.1 hj).1; omega) hp
  refine ⟨h.len, fun c x hx => ?_, fun c c' x hx h0 hc' => ?_, fun j hj => ?_⟩
  · by_cases e : x = (n : Int)
    · omega
    · have := hP.lo c x (h.other c x hx e); omega
  · by_cases e : x = (n : Int)
    · subst e
      have hc := h.conn c ((h.new c).2 hx)
      rw [← h.new]
      exact ⟨fun hm => (hc.symm hs hi).trans (h.conn c' hm), fun hcc => hall c' (hc.trans hcc)⟩
    · rw [← hP.cls c c' x (h.other c x hx e) h0 hc']
      exact ⟨fun hm => h.other c' x hm e, fun hm => h.old c' x hm h0⟩
  · rcases Nat.lt_or_ge j n with h1 | h1
    · obtain ⟨c, hc⟩ := hP.onto j h1
      exact ⟨c, h.old c _ hc (by omega)⟩
    · obtain rfl : j = n := by omega
      exact ⟨i, (h.new i).1 h.start⟩
theorem BInv.qlen {d : Dia} {os0 os : List Int} {n i : Nat} {qs : List Nat} (h : BInv d os0 os n i qs) : qs.length ≤ d.cross.length := by
  have hsub : qs ⊆ List.range d.cross.length := fun c hc => by
    have := (List.getElem?_eq_some_iff.1 ((h.new c).1 hc)).1
    rw [h.len] at this; exact List.mem_range.2 this
  have := List.Nodup.length_le_of_subset h.nodup hsub
  simpa using this
theorem BInv.lt {d : Dia} {os0 os : List Int} {n i : Nat} {qs : List Nat} (h : BInv d os0 os n i qs) {c : Nat} (hc : c ∈ qs) : c < d.cross.length := by
  have := (List.getElem?_eq_some_iff.1 ((h.new c).1 hc)).1
  rwa [h.len] at this
/-- All crossings up to i are numbered; a number is at most the number of crossings ahead. -/
theorem BInv.mono {d : Dia} {os0 os : List Int} {n i : Nat} {qs : List Nat} (h : BInv d os0 os n i qs) {m : Nat} (hm : ∀ c, c < m → ∃ x, os0[c]? = some x ∧ 0 ≤ x) : ∀ c, c < m → ∃ x, os[c]? = some x ∧ 0 ≤ x := fun c hc => by
  obtain ⟨x, hx, h0⟩ := hm c hc
  exact ⟨x, h.old c x hx h0, h0⟩
/-! ### The orbit of a place, counted -/
def OrbN (f : Nat → Nat) (q0 N : Nat) : Prop := 0 < N ∧ iter f N q0 = q0 ∧ ∀ k, 0 < k → k < N → iter f k q0 ≠ q0
theorem orbGo_orb {f : Nat → Nat} {q0 : Nat} : ∀ (k i : Nat), (∀ m, 0 < m → m ≤ i → iter f m q0 ≠ q0) → (∃ j, j ≤ k ∧ iter f (i + j + 1) q0 = q0) →
    ∃ n, 0 < n ∧ orbGo f q0 (k + 1) (iter f i q0) = (List.range n).map (fun m => iter f (i + m) q0) ∧ iter f (i + n) q0 = q0 ∧ ∀ m, 0 < m → m < i + n → iter f m q0 ≠ q0
  | k, i, hmin, ⟨j, hj, hb⟩ => by
    by_cases e : f (iter f i q0) = q0
    · refine ⟨1, by omega, by rw [orbGo_last e]; simp [List.range_succ], by rw [iter_succ]; exact e, fun m h0 h1 => hmin m h0 (by omega)⟩
    · have hj0 : j ≠ 0 := fun h => by subst h; rw [Nat.add_zero, iter_succ] at hb; exact e hb
      obtain ⟨k, rfl⟩ : ∃ m, k = m + 1 := ⟨k - 1, by omega⟩
      have hmin2 : ∀ m, 0 < m → m ≤ i + 1 → iter f m q0 ≠ q0 := fun m h0 h1 => by
        rcases Nat.lt_or_ge m (i + 1) with h | h
        · exact hmin m h0 (by omega)
        · obtain rfl : m = i + 1 := by omega
          rw [iter_succ]; exact e
      obtain ⟨n, h0, h1, h2, h3⟩ := orbGo_orb k (i + 1) hmin2 ⟨j - 1, by omega, by rw [show i + 1 + (j - 1) + 1 = i + j + 1 by omega]; exact hb⟩
      refine ⟨n + 1, by omega, ?_, by rw [show i + (n + 1) = i + 1 + n by omega]; exact h2, fun m h0 hm => h3 m h0 (by omega)⟩
      rw [orbGo_next e, ← iter_succ f i q0, h1, List.range_succ_eq_map, List.map_cons, List.map_map, Nat.add_zero]
      congr 1
      refine List.map_congr_left fun m _ => ?_
      show iter f (i + 1 + m) q0 = iter f (i + (m + 1)) q0
      rw [show i + 1 + m = i + (m + 1) by omega]
theorem SoundP.orb {d : Dia} (h : SoundP d) {q : Nat} (hq : q < 4 * d.cross.length) : OrbN (stepQ d) q (regionOf d q).length ∧ regionOf d q = (List.range (regionOf d q).length).map fun k => iter (stepQ d) k q := by
  obtain ⟨j, hj, hb⟩ := h.back hq
  obtain ⟨n, h0, h1, h2, h3⟩ := orbGo_orb (f := stepQ d) (q0 := q) (4 * d.cross.length - 1) 0 (fun m h0 h1 => by omega) ⟨j, hj, by rw [Nat.zero_add]; exact hb⟩
  rw [show 4 * d.cross.length - 1 + 1 = 4 * d.cross.length by omega] at h1
  simp only [Nat.zero_add] at h1 h2 h3
  have e : (regionOf d q).length = n := by rw [regionOf]; show (orbGo _ _ _ (iter (stepQ d) 0 q)).length = n; rw [h1]; simp
  rw [e]
  exact ⟨⟨h0, h2, h3⟩, h1⟩
end Go.V
/- Diagrams as data, part e: the map of places that the program has met. -/
namespace Go.V
open Go
def keyE (q : Nat) : Int × Int := (((q / 4 : Nat) : Int), ((q % 4 : Nat) : Int))
theorem keyE_inj {q q' : Nat} : keyE q = keyE q' ↔ q = q' := by
  simp only [keyE, Prod.mk.injEq]; omega
def addTo (f : Nat → Nat) (l : List ((Int × Int) × Value)) (q0 j : Nat) : List ((Int × Int) × Value) := (List.range j).foldl (fun l k => mput l (keyE (iter f k q0)) (.bool true)) l
theorem addTo_succ (f : Nat → Nat) (l : List ((Int × Int) × Value)) (q0 j : Nat) : addTo f l q0 (j + 1) = mput (addTo f l q0 j) (keyE (iter f j q0)) (.bool true) := by simp [addTo, List.range_succ]
theorem mget_addTo (f : Nat → Nat) (l : List ((Int × Int) × Value)) (q0 j q : Nat) : mget (addTo f l q0 j) (keyE q) = if ((List.range j).map fun k => iter f k q0).contains q then some (.bool true) else mget l (keyE q) := by
  induction j with
  | zero => simp [addTo]
  | succ j ih =>
    rw [addTo_succ, mget_mput, ih, List.range_succ, List.map_append, List.contains_eq_mem, List.contains_eq_mem]
    by_cases h : iter f j q0 = q
    · rw [if_pos (keyE_inj.2 h)]; simp [h]
    · have : ¬ q = iter f j q0 := fun e => h e.symm
      rw [if_neg (fun e => h (keyE_inj.1 e))]; simp [this]
def MetOk (l : List ((Int × Int) × Value)) (rs : List (Value × List Nat)) : Prop := ∀ q, (mget l (keyE q)).getD (.bool false) = .bool (rs.any fun a => a.2.contains q)
theorem MetOk.nil : MetOk [] [] := fun _ => rfl
theorem MetOk.at {l : List ((Int × Int) × Value)} {rs : List (Value × List Nat)} (h : MetOk l rs) {c p : Nat} (hp : p < 4) : (mget l (((c : Nat) : Int), ((p : Nat) : Int))).getD (.bool false) = .bool (rs.any fun a => a.2.contains (4 * c + p)) := by
  have := h (4 * c + p)
  simp only [keyE] at this
  rwa [show (4 * c + p) / 4 = c by omega, show (4 * c + p) % 4 = p by omega] at this
theorem MetOk.push {l : List ((Int × Int) × Value)} {rs : List (Value × List Nat)} (h : MetOk l rs) {d : Dia} {q0 N : Nat} {v : Value} (hr : regionOf d q0 = (List.range N).map fun k => iter (stepQ d) k q0) : MetOk (addTo (stepQ d) l q0 N) (rs ++ [(v, regionOf d q0)]) := fun q => by
  rw [mget_addTo, ← hr, List.any_append]
  have := h q
  by_cases hc : (regionOf d q0).contains q = true
  · rw [if_pos hc]; simp only [List.any_cons, List.any_nil, hc, Bool.or_false, Bool.or_true]; rfl
  · rw [if_neg hc, this]; simp only [Bool.not_eq_true] at hc; simp only [List.any_cons, List.any_nil, hc, Bool.or_false]
theorem regHL_reg {d : Dia} {q N : Nat} {v : Value} (h : regionOf d q = (List.range N).map fun k => iter (stepQ d) k q) : regHL (v, regionOf d q) = HL.own 43 2 v N (((List.range N).map fun k => iter (stepQ d) k q).flatMap encQ) := by
  rw [regHL]; simp only [h, List.length_map, List.length_range]
theorem orb_snoc (f : Nat → Nat) (q0 j : Nat) {a b : Int} (h1 : a = ((iter f j q0 / 4 : Nat) : Int)) (h2 : b = ((iter f j q0 % 4 : Nat) : Int)) : ((List.range j).map fun k => iter f k q0).flatMap encQ ++ [iv a, iv b] = ((List.range (j + 1)).map fun k => iter f k q0).flatMap encQ := by
  rw [List.range_succ, List.map_append, List.map_cons, List.map_nil]; exact flatQ_snoc h1 h2
end Go.V
/- Diagrams as data, part f: the count by which the program decides whether a diagram is planar. -/
namespace Go.V
open Go
def fillTo (v : Int) (N a : Nat) : List Int := (List.range N).map fun i => if i < a then v else 0
theorem fillTo_len (v : Int) (N a : Nat) : (fillTo v N a).length = N := by simp [fillTo]
theorem fillTo_zero (v : Int) (N : Nat) : fillTo v N 0 = List.replicate N 0 := by
  apply List.ext_getElem?; intro i
  simp only [fillTo, List.getElem?_map, List.getElem?_replicate]
  by_cases h : i < N <;> simp [h]
theorem fillTo_succ {v : Int} {N a : Nat} (h : a < N) : (fillTo v N a).set a v = fillTo v N (a + 1) := by
  apply List.ext_getElem?
  intro i
  rw [List.getElem?_set, fillTo_len]
  by_cases hi : i < N
  · by_cases e : a = i
    · subst e; simp [fillTo, hi]
    · simp only [if_neg e, fillTo, List.getElem?_map, List.getElem?_range hi, Option.map_some]
      have : (i < a) ↔ (i < a + 1) := by omega
      simp [this]
  · rw [if_neg (by omega), List.getElem?_eq_none (by simp [fillTo_len]; omega), List.getElem?_eq_none (by simp [fillTo_len]; omega)]
def cntOs (os : List Int) (m : Nat) (j : Nat) : Nat := ((os.take m).filter fun x => decide (x = (j : Int))).length
def cntRs (os : List Int) (rs : List (Value × List Nat)) (t : Nat) (j : Nat) : Nat := ((rs.take t).filter fun a => decide (os.getD (a.2.headD 0 / 4) 0 = (j : Int))).length
def leftAt (os : List Int) (rs : List (Value × List Nat)) (k m t : Nat) : List Int := (List.range k).map fun j => 2 + (cntOs os m j : Int) - (cntRs os rs t j : Int)
theorem leftAt_len (os : List Int) (rs : List (Value × List Nat)) (k m t : Nat) : (leftAt os rs k m t).length = k := by simp [leftAt]
theorem leftAt_zero (os : List Int) (rs : List (Value × List Nat)) (k : Nat) : leftAt os rs k 0 0 = fillTo 2 k k := by
  simp only [leftAt, fillTo]
  exact List.map_congr_left fun i hi => by rw [if_pos (List.mem_range.1 hi)]; simp [cntOs, cntRs]
theorem leftAt_get {os : List Int} {rs : List (Value × List Nat)} {k m t j : Nat} (h : j < k) : (leftAt os rs k m t)[j]? = some (2 + (cntOs os m j : Int) - (cntRs os rs t j : Int)) := by simp [leftAt, h]
theorem cntOs_succ {os : List Int} {m : Nat} {x : Int} (hx : os[m]? = some x) (j : Nat) : cntOs os (m + 1) j = cntOs os m j + if x = (j : Int) then 1 else 0 := by
  simp only [cntOs, List.take_add_one, hx, List.filter_append, List.length_append]
  by_cases h : x = (j : Int) <;> simp [h]
theorem cntRs_succ {os : List Int} {rs : List (Value × List Nat)} {t : Nat} {a : Value × List Nat} (ha : rs[t]? = some a) (j : Nat) : cntRs os rs (t + 1) j = cntRs os rs t j + if os.getD (a.2.headD 0 / 4) 0 = (j : Int) then 1 else 0 := by
  simp only [cntRs, List.take_add_one, ha, List.filter_append, List.length_append]
  by_cases h : os.getD (a.2.headD 0 / 4) 0 = (j : Int)
  · rw [if_pos h]; simp only [Option.toList, List.filter_cons, List.filter_nil, decide_eq_true h, if_true, List.length_singleton]
  · rw [if_neg h]; simp only [Option.toList, List.filter_cons, List.filter_nil, decide_eq_false h, Bool.false_eq_true, if_false, List.length_nil]
theorem cntOs_le (os : List Int) (m j : Nat) : cntOs os m j ≤ os.length := by
  have h1 := List.length_filter_le (fun x => decide (x = (j : Int))) (os.take m); have h2 := List.length_take_le' m os; simp only [cntOs]; omega
theorem cntRs_le (os : List Int) (rs : List (Value × List Nat)) (t j : Nat) : cntRs os rs t j ≤ rs.length := by
  have h1 := List.length_filter_le (fun a : Value × List Nat => decide (os.getD (a.2.headD 0 / 4) 0 = (j : Int))) (rs.take t); have h2 := List.length_take_le' t rs; simp only [cntRs]; omega
theorem left_up {os : List Int} {rs : List (Value × List Nat)} {k m t x : Nat} (hx : os[m]? = some (x : Int)) (hk : x < k) : (leftAt os rs k m t).set x (2 + (cntOs os m x : Int) - (cntRs os rs t x : Int) + 1) = leftAt os rs k (m + 1) t := by
  apply List.ext_getElem?
  intro i
  rw [List.getElem?_set, leftAt_len]
  by_cases hi : i < k
  · by_cases e : x = i
    · subst e; rw [if_pos rfl, if_pos hk, leftAt_get hk, cntOs_succ hx]; simp; omega
    · have : ¬ ((x : Int) = (i : Int)) := by omega
      rw [if_neg e, leftAt_get hi, leftAt_get hi, cntOs_succ hx]; simp [this]
  · rw [if_neg (by omega), List.getElem?_eq_none (by simp [leftAt_len]; omega), List.getElem?_eq_none (by simp [leftAt_len]; omega)]
theorem left_down {os : List Int} {rs : List (Value × List Nat)} {k m t x : Nat} {a : Value × List Nat} (ha : rs[t]? = some a) (hx : os[a.2.headD 0 / 4]? = some (x : Int)) (hk : x < k) : (leftAt os rs k m t).set x (2 + (cntOs os m x : Int) - (cntRs os rs t x : Int) - 1) = leftAt os rs k m (t + 1) := by
  have hg : os.getD (a.2.headD 0 / 4) 0 = (x : Int) := by rw [List.getD_eq_getElem?_getD, hx]; rfl
  apply List.ext_getElem?
  intro i
  rw [List.getElem?_set, leftAt_len]
  by_cases hi : i < k
  · by_cases e : x = i
    · subst e; rw [if_pos rfl, if_pos hk, leftAt_get hk, cntRs_succ ha, hg]; simp; omega
    · have : ¬ ((x : Int) = (i : Int)) := by omega
      rw [if_neg e, leftAt_get hi, leftAt_get hi, cntRs_succ ha, hg]; simp [this]
  · rw [if_neg (by omega), List.getElem?_eq_none (by simp [leftAt_len]; omega), List.getElem?_eq_none (by simp [leftAt_len]; omega)]
theorem filter_length_congr {α : Type} {f g : α → Bool} : ∀ {l : List α}, (∀ x ∈ l, f x = g x) → (l.filter f).length = (l.filter g).length := fun h => by rw [List.filter_congr h]
theorem cntOs_piece {d : Dia} {os : List Int} {k : Nat} (hP : PInv d os k) {c j : Nat} (hc : os[c]? = some (j : Int)) : cntOs os d.cross.length j = (pieceOf d c).length := by
  have hos : os = (List.range d.cross.length).map fun i => os.getD i 0 := by
    apply List.ext_getElem?; intro i
    by_cases hi : i < d.cross.length
    · obtain ⟨y, hy⟩ := get_of_lt (l := os) (i := i) (by rw [hP.len]; exact hi)
      simp [hi, hy]
    · rw [List.getElem?_eq_none (by rw [hP.len]; omega), List.getElem?_eq_none (by simp; omega)]
  rw [cntOs, List.take_of_length_le (by rw [hP.len]; exact Nat.le_refl _)]
  conv => lhs; rw [hos]
  rw [List.filter_map, List.length_map, pieceOf]
  refine filter_length_congr fun i hi => ?_
  have hi := List.mem_range.1 hi
  obtain ⟨y, hy⟩ := get_of_lt (l := os) (i := i) (by rw [hP.len]; exact hi)
  have := hP.cls c i j hc (by omega) hi
  rw [hy] at this
  simp only [Function.comp, List.getD_eq_getElem?_getD, hy, Option.getD_some]
  by_cases e : y = (j : Int)
  · rw [connB_iff.2 (this.1 (by rw [e]))]; simp [e]
  · rw [connB_false.2 (fun h => e (Option.some.inj (this.2 h)))]; simp [e]
theorem cntRs_piece {d : Dia} {os : List Int} {k : Nat} (hP : PInv d os k) {rs : List (Value × List Nat)} (hr : rs.map Prod.snd = regsOf d) {c j : Nat} (hc : os[c]? = some (j : Int)) : cntRs os rs rs.length j = cntReg d c := by
  rw [cntReg_rs hr, cntRs, List.take_length]
  refine filter_length_congr fun a ha => ?_
  have hi := (regs_head (d := d) (Q := 4 * d.cross.length) hr (Nat.le_refl _) ha).1
  obtain ⟨y, hy⟩ := get_of_lt (l := os) (i := a.2.headD 0 / 4) (by rw [hP.len]; exact hi)
  have := hP.cls c _ j hc (by omega) hi
  rw [hy] at this
  simp only [List.getD_eq_getElem?_getD, hy, Option.getD_some]
  by_cases e : y = (j : Int)
  · rw [connB_iff.2 (this.1 (by rw [e]))]; simp [e]
  · rw [connB_false.2 (fun h => e (Option.some.inj (this.2 h)))]; simp [e]
theorem planar_of_left {d : Dia} {os : List Int} {k : Nat} (hP : PInv d os k) (hall : ∀ c, c < d.cross.length → ∃ x, os[c]? = some x ∧ 0 ≤ x) {rs : List (Value × List Nat)} (hr : rs.map Prod.snd = regsOf d)
    (h : ∀ j, j < k → 2 + (cntOs os d.cross.length j : Int) - (cntRs os rs rs.length j : Int) = 0) : PlanarP d := fun c hc => by
  obtain ⟨x, hx, h0⟩ := hall c hc
  have hxk := (hP.lo c x hx).2
  have hx' : os[c]? = some ((x.toNat : Nat) : Int) := by rw [Int.toNat_of_nonneg h0]; exact hx
  have := h x.toNat (by omega)
  rw [cntOs_piece hP hx', cntRs_piece hP hr hx'] at this
  omega
theorem left_of_planar {d : Dia} {os : List Int} {k : Nat} (hP : PInv d os k) {rs : List (Value × List Nat)} (hr : rs.map Prod.snd = regsOf d) (h : PlanarP d) {j : Nat} (hj : j < k) : 2 + (cntOs os d.cross.length j : Int) - (cntRs os rs rs.length j : Int) = 0 := by
  obtain ⟨c, hc⟩ := hP.onto j hj
  have hl : c < d.cross.length := by rw [← hP.len]; exact (List.getElem?_eq_some_iff.1 hc).1
  have := h c hl
  rw [cntOs_piece hP hc, cntRs_piece hP hr hc]
  omega
/-! ### What 'enter' gives -/
theorem Sym.re {w0 w : World} {S : Nat → Prop} {L : List HL} {h h' : HL} (i : Nat) (hs : Sym w0 S L w) (hi : L[i]? = some h) (e : h = h') : Sym w0 S (L.set i h') w := by
  subst e
  have : L.set i h = L := by
    apply List.ext_getElem?; intro j
    rw [List.getElem?_set]
    split
    · rename_i e; subst e; split
      · exact hi.symm
      · rename_i hn; rw [List.getElem?_eq_none (by omega)]
    · rfl
  rw [this]; exact hs
noncomputable def entV (d : Dia) (b : Nat) : Value := bif decide (checkI d = 0) then ptrV b else .pointer none
noncomputable def entH (base : Option Addr) (cap : Nat) (d : Dia) (g : Nat × Value) : HL := bif decide (checkI d = 0) then HL.all [HL.obj g.1 (.cells #[.slice base d.cross.length cap, iv d.loops, g.2] 65 (0, 0)), HL.own 87 4 g.2 (2 * d.cross.length) ((endsL d).flatMap encAE)] else HL.emp
theorem entV_ok {d : Dia} (h : checkI d = 0) (b : Nat) : entV d b = ptrV b := by rw [entV, decide_eq_true h]; rfl
theorem entV_bad {d : Dia} (h : checkI d ≠ 0) (b : Nat) : entV d b = .pointer none := by rw [entV, decide_eq_false h]; rfl
theorem entH_ok {base : Option Addr} {cap : Nat} {d : Dia} (h : checkI d = 0) (g : Nat × Value) : entH base cap d g = HL.all [HL.obj g.1 (.cells #[.slice base d.cross.length cap, iv d.loops, g.2] 65 (0, 0)), HL.own 87 4 g.2 (2 * d.cross.length) ((endsL d).flatMap encAE)] := by rw [entH, decide_eq_true h]; rfl
theorem entH_bad {base : Option Addr} {cap : Nat} {d : Dia} (h : checkI d ≠ 0) (g : Nat × Value) : entH base cap d g = HL.emp := by rw [entH, decide_eq_false h]; rfl
theorem checkI_ok {d : Dia} : checkI d = 0 ↔ SoundP d ∧ PlanarP d := by
  rw [checkI, ← soundB_iff, ← planarB_iff]
  cases soundB d <;> cases planarB d <;> simp
theorem checkI_unsound {d : Dia} (h : soundB d = false) : checkI d = 220 := by rw [checkI, h]; rfl
theorem checkI_unplanar {d : Dia} (h : SoundP d) (k : ¬ PlanarP d) : checkI d = 221 := by
  rw [checkI, soundB_iff.2 h]
  have : planarB d = false := Bool.eq_false_iff.2 (fun e => k (planarB_iff.1 e))
  rw [this]; rfl
theorem own_ends_ok {d : Dia} (h : SoundP d) (v : Value) : HL.own 87 4 v (endsN d) (endsC d) = HL.own 87 4 v (2 * d.cross.length) ((endsL d).flatMap encAE) := by simp only [endsN, endsC, soundB_iff.2 h, cond_true]
theorem DgAt.of_own {w : World} {b cap : Nat} {base : Option Addr} {A : Addr} {d : Dia} {av : Value} {t : TypeId} {fz : Nat × Nat} (hd : DiaAt w base A d) (ho : w.heap[b]? = some (.cells #[.slice base d.cross.length cap, iv d.loops, av] t fz)) (hw : w.ownsRow 0 87 4 av (2 * d.cross.length) ((endsL d).flatMap encAE)) : DgAt w b base A cap d av :=
  ⟨cell_of_obj ho rfl, cell_of_obj ho rfl, cell_of_obj ho rfl, hd, own_shape hw, own_all hw⟩
end Go.V
/- Diagrams as data, part g: linking numbers. -/
namespace Go.V
open Go
def lowC (of : List Int) (x : Cr) : Int := of.getD x.a0.toNat 0
def upC (of : List Int) (x : Cr) : Int := of.getD x.a1.toNat 0
def linkOne (of : List Int) (i j : Int) (x : Cr) : Int := if lowC of x = i ∧ upC of x = j ∨ lowC of x = j ∧ upC of x = i then x.s else 0
def linkTo (of : List Int) (l : List Cr) (i j : Int) (c : Nat) : Int := ((l.take c).map (linkOne of i j)).sum
def linkSum (d : Dia) (i j : Int) : Int := linkTo (compOf d) d.cross i j d.cross.length
theorem linkTo_succ {of : List Int} {l : List Cr} {i j : Int} {c : Nat} {x : Cr} (hx : l[c]? = some x) : linkTo of l i j (c + 1) = linkTo of l i j c + linkOne of i j x := by
  simp only [linkTo, List.take_add_one, hx, Option.toList_some, List.map_append, List.sum_append]
  simp
theorem linkOne_bound {of : List Int} {i j : Int} {x : Cr} (h : x.s = 1 ∨ x.s = -1) : -1 ≤ linkOne of i j x ∧ linkOne of i j x ≤ 1 := by
  simp only [linkOne]; split <;> omega
theorem linkTo_bound {of : List Int} {l : List Cr} {i j : Int} (h : ∀ x ∈ l, x.s = 1 ∨ x.s = -1) : ∀ c : Nat, -(c : Int) ≤ linkTo of l i j c ∧ linkTo of l i j c ≤ c := by
  intro c
  induction c with
  | zero => simp [linkTo]
  | succ c ih =>
    rcases Nat.lt_or_ge c l.length with hc | hc
    · obtain ⟨x, hx⟩ := get_of_lt hc
      have := linkOne_bound (of := of) (i := i) (j := j) (h x (List.mem_of_getElem? hx))
      rw [linkTo_succ hx]; omega
    · have e : linkTo of l i j (c + 1) = linkTo of l i j c := by simp only [linkTo]; rw [List.take_of_length_le (by omega), List.take_of_length_le hc]
      rw [e]; omega
theorem tdiv2_bound {s : Int} {n : Int} (h : -n ≤ s) (h2 : s ≤ n) (hn : 0 ≤ n) : -n ≤ s.tdiv 2 ∧ s.tdiv 2 ≤ n := by
  rw [Int.tdiv_eq_ediv]
  have : Int.sign 2 = 1 := rfl
  split <;> omega
def LinkBad (d : Dia) (i j : Int) : Prop := i < 0 ∨ j < 0 ∨ (compCount d : Int) + d.loops ≤ i ∨ (compCount d : Int) + d.loops ≤ j ∨ i = j
instance (d : Dia) (i j : Int) : Decidable (LinkBad d i j) := by unfold LinkBad; infer_instance
def linkR (d : Dia) (i j : Int) : Int := if LinkBad d i j then 0 else (linkSum d i j).tdiv 2
def linkE (d : Dia) (i j : Int) : Int := if LinkBad d i j then 1 else 0
end Go.V
