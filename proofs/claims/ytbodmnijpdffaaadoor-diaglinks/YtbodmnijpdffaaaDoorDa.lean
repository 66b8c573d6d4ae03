/- Diagrams as data, and in memory. -/
import Derived.Test.YtbodmnijpdffaaaDoorVg
namespace Go.V
open Go
structure Cr where
  a0 : Int
  a1 : Int
  a2 : Int
  a3 : Int
  s : Int
  deriving DecidableEq
structure Dia where
  cross : List Cr
  loops : Int
  deriving DecidableEq
def Cr.arc (x : Cr) : Nat → Int
  | 0 => x.a0
  | 1 => x.a1
  | 2 => x.a2
  | _ => x.a3
/-- Does a strand come in at a place? -/
def Cr.inn (x : Cr) (p : Nat) : Bool := decide (p = 0 ∨ p = 3 ∧ x.s = 1 ∨ p = 1 ∧ x.s = -1)
abbrev iv (n : Int) : Value := .int .i64 n
def encCr (x : Cr) : List Value := [iv x.a0, iv x.a1, iv x.a2, iv x.a3, iv x.s]
abbrev crV (x : Cr) : Value := .agg #[iv x.a0, iv x.a1, iv x.a2, iv x.a3, iv x.s]
abbrev diaV (base : Option Addr) (cap : Nat) (d : Dia) : Value := .agg #[.slice base d.cross.length cap, iv d.loops]
def In64 (n : Int) : Prop := -9223372036854775808 ≤ n ∧ n ≤ 9223372036854775807
structure Cr.Wf (x : Cr) : Prop where
  a0 : In64 x.a0
  a1 : In64 x.a1
  a2 : In64 x.a2
  a3 : In64 x.a3
  s : In64 x.s
/-- The crossings lie from A on. -/
structure DiaAt (w : World) (base : Option Addr) (A : Addr) (d : Dia) : Prop where
  base : 0 < d.cross.length → base = some A
  cell : ∀ (i : Nat) (x : Cr), d.cross[i]? = some x → Cells w (A.add (i * 5)) (encCr x)
  len : d.cross.length ≤ 9223372036854775807
  wf : ∀ x ∈ d.cross, x.Wf
  loops : In64 d.loops
theorem DiaAt.arc {w : World} {base : Option Addr} {A : Addr} {d : Dia} (h : DiaAt w base A d) {i p : Nat} {x : Cr} (hi : d.cross[i]? = some x) (hp : p < 4) : w.cell? (((A.add (i * 5)).add 0).add (p * 1)) = some (iv (x.arc p)) := by
  have := h.cell i x hi p (iv (x.arc p)) (by
    match p, hp with
    | 0, _ => rfl
    | 1, _ => rfl
    | 2, _ => rfl
    | 3, _ => rfl)
  simpa [add_add] using this
theorem DiaAt.sign {w : World} {base : Option Addr} {A : Addr} {d : Dia} (h : DiaAt w base A d) {i : Nat} {x : Cr} (hi : d.cross[i]? = some x) : w.cell? ((A.add (i * 5)).add 4) = some (iv x.s) := h.cell i x hi 4 _ rfl
theorem DiaAt.cross {w : World} {base : Option Addr} {A : Addr} {d : Dia} (h : DiaAt w base A d) {i : Nat} {x : Cr} (hi : d.cross[i]? = some x) : Cells w (A.add (i * 5)) (encCr x) := h.cell i x hi
theorem DiaAt.old {w w' : World} {base : Option Addr} {A : Addr} {d : Dia} (h : DiaAt w base A d) (ho : Old Nil w w') : DiaAt w' base A d :=
  ⟨h.base, fun i x hi j v hj => ho.cell (h.cell i x hi j v hj) (fun x => x), h.len, h.wf, h.loops⟩
theorem DiaAt.sym {w w' : World} {L : List HL} {base : Option Addr} {A : Addr} {d : Dia} (h : DiaAt w base A d) (hs : Sym w Nil L w') : DiaAt w' base A d := h.old hs.old
theorem get_of_lt {α : Type} {l : List α} {i : Nat} (h : i < l.length) : ∃ x, l[i]? = some x := ⟨l[i], by simp [h]⟩
/-- Does an arc come in (go out) at place q (crossing q / 4, place q % 4)? -/
def matchAt (d : Dia) (a : Int) (inn : Bool) (q : Nat) : Bool :=
  match d.cross[q / 4]? with
  | some x => decide (x.arc (q % 4) = a) && (x.inn (q % 4) == inn)
  | none => false
def findEnd (d : Dia) (a : Int) (inn : Bool) : Option Nat := (List.range (4 * d.cross.length)).find? (matchAt d a inn)
def endC : Option Nat → Int
  | some q => ((q / 4 : Nat) : Int)
  | none => -1
def endP : Option Nat → Int
  | some q => ((q % 4 : Nat) : Int)
  | none => 0
abbrev endV (r : Option Nat) : Value := .agg #[iv (endC r), iv (endP r)]
theorem find_range_some {N k : Nat} {M : Nat → Bool} (hk : k < N) (hM : M k = true) (hlt : ∀ q, q < k → M q = false) : (List.range N).find? M = some k := by
  rw [List.find?_range_eq_some]
  exact ⟨hM, by simpa using hk, fun q hq => by simp [hlt q hq]⟩
theorem find_range_none {N : Nat} {M : Nat → Bool} (h : ∀ q, q < N → M q = false) : (List.range N).find? M = none := by
  rw [List.find?_eq_none]
  intro q hq
  simp [h q (by simpa using hq)]
theorem matchAt_eq {d : Dia} {c p : Nat} {x : Cr} (hx : d.cross[c]? = some x) (hp : p < 4) (a : Int) (inn : Bool) : matchAt d a inn (4 * c + p) = (decide (x.arc p = a) && (x.inn p == inn)) := by
  have h1 : (4 * c + p) / 4 = c := by omega
  have h2 : (4 * c + p) % 4 = p := by omega
  simp [matchAt, h1, h2, hx]
theorem lt_ext {M : Nat → Bool} {k : Nat} (h : ∀ q, q < k → M q = false) (hk : M k = false) : ∀ q, q < k + 1 → M q = false := fun q hq => by
  rcases Nat.lt_or_ge q k with h' | h'
  · exact h q h'
  · obtain rfl : q = k := by omega
    exact hk
/-! ### Sound diagrams, by data -/
def Dia.n (d : Dia) : Nat := d.cross.length
def crAt (d : Dia) (c : Nat) : Cr := d.cross.getD c ⟨0, 0, 0, 0, 0⟩
theorem crAt_eq {d : Dia} {c : Nat} {x : Cr} (h : d.cross[c]? = some x) : crAt d c = x := by simp [crAt, List.getD_eq_getElem?_getD, h]
theorem crAt_get {d : Dia} {c : Nat} (h : c < d.cross.length) : d.cross[c]? = some (crAt d c) := by simp [crAt, List.getD_eq_getElem?_getD, h]
def arcQ (d : Dia) (q : Nat) : Int := (crAt d (q / 4)).arc (q % 4)
def innQ (d : Dia) (q : Nat) : Bool := (crAt d (q / 4)).inn (q % 4)
theorem matchAt_iff {d : Dia} {a : Int} {inn : Bool} {q : Nat} (hq : q < 4 * d.cross.length) : matchAt d a inn q = true ↔ arcQ d q = a ∧ innQ d q = inn := by
  have h : q / 4 < d.cross.length := by omega
  simp [matchAt, crAt_get h, arcQ, innQ]
theorem findEnd_some {d : Dia} {a : Int} {inn : Bool} {q : Nat} (h : findEnd d a inn = some q) : q < 4 * d.cross.length ∧ arcQ d q = a ∧ innQ d q = inn ∧ ∀ q', q' < q → matchAt d a inn q' = false := by
  have h1 := List.find?_range_eq_some.1 h
  have h2 : q < 4 * d.cross.length := by simpa using h1.2.1
  exact ⟨h2, ((matchAt_iff h2).1 h1.1).1, ((matchAt_iff h2).1 h1.1).2, fun q' hq' => by simpa using h1.2.2 q' hq'⟩
/-- How many of the first Q places match. -/
def cnt (d : Dia) (a : Int) (inn : Bool) (Q : Nat) : Nat := ((List.range Q).filter (matchAt d a inn)).length
theorem cnt_zero (d : Dia) (a : Int) (inn : Bool) : cnt d a inn 0 = 0 := rfl
theorem cnt_succ (d : Dia) (a : Int) (inn : Bool) (Q : Nat) : cnt d a inn (Q + 1) = cnt d a inn Q + if matchAt d a inn Q = true then 1 else 0 := by
  simp only [cnt, List.range_succ, List.filter_append, List.length_append]
  by_cases h : matchAt d a inn Q = true <;> simp [h]
def SoundP (d : Dia) : Prop := d.cross.length ≤ 200 ∧ 0 ≤ d.loops ∧ d.loops ≤ 200 ∧ (∀ x ∈ d.cross, (x.s = 1 ∨ x.s = -1) ∧ ∀ p, p < 4 → 0 ≤ x.arc p ∧ x.arc p < 2 * d.cross.length) ∧
  ∀ a : Nat, a < 2 * d.cross.length → cnt d a false (4 * d.cross.length) = 1 ∧ cnt d a true (4 * d.cross.length) = 1
/-- The arc behind an arc. -/
def nextA (d : Dia) (a : Int) : Int := match findEnd d a true with
  | some q => (crAt d (q / 4)).arc ((q % 4 + 2) % 4)
  | none => 0
def writheTo (d : Dia) (c : Nat) : Int := ((d.cross.take c).map Cr.s).sum
def writhe (d : Dia) : Int := writheTo d d.cross.length
theorem writheTo_succ {d : Dia} {c : Nat} {x : Cr} (hx : d.cross[c]? = some x) : writheTo d (c + 1) = writheTo d c + x.s := by
  have hc : c < d.cross.length := (List.getElem?_eq_some_iff.1 hx).1
  simp only [writheTo, List.take_add_one, hx, Option.toList_some, List.map_append, List.sum_append]
  simp
theorem writheTo_bound {d : Dia} (h : ∀ x ∈ d.cross, x.s = 1 ∨ x.s = -1) : ∀ c : Nat, -(c : Int) ≤ writheTo d c ∧ writheTo d c ≤ c := by
  intro c
  induction c with
  | zero => simp [writheTo]
  | succ c ih =>
    rcases Nat.lt_or_ge c d.cross.length with hc | hc
    · obtain ⟨x, hx⟩ := get_of_lt hc
      have := h x (List.mem_of_getElem? hx)
      rw [writheTo_succ hx]; omega
    · have e : writheTo d (c + 1) = writheTo d c := by simp only [writheTo]; rw [List.take_of_length_le (by omega), List.take_of_length_le hc]
      rw [e]; omega
/-- -1 in the first places, 0 behind. -/
def negTo (N a : Nat) : List Int := (List.range N).map fun i => if i < a then -1 else 0
theorem negTo_len (N a : Nat) : (negTo N a).length = N := by simp [negTo]
theorem negTo_zero (N : Nat) : negTo N 0 = List.replicate N 0 := by
  apply List.ext_getElem?; intro i
  simp only [negTo, List.getElem?_map, List.getElem?_replicate]
  by_cases h : i < N <;> simp [h]
theorem negTo_all (N : Nat) : negTo N N = List.replicate N (-1) := by
  apply List.ext_getElem?; intro i
  simp only [negTo, List.getElem?_map, List.getElem?_replicate]
  by_cases h : i < N <;> simp [h]
theorem negTo_succ {N a : Nat} (h : a < N) : (negTo N a).set a (-1) = negTo N (a + 1) := by
  apply List.ext_getElem?
  intro i
  rw [List.getElem?_set]
  simp only [negTo, List.length_map, List.length_range, List.getElem?_map]
  by_cases hi : i < N
  · by_cases e : a = i
    · subst e; simp [h]
    · by_cases h1 : i < a
      · simp [e, hi, h1, show i < a + 1 by omega]
      · simp [e, hi, h1, show ¬ i < a + 1 by omega]
  · simp [hi]; intro e; omega
/-- From b on along nx as long as there is no number: number k. -/
def markC (nx : Nat → Nat) (k : Int) : Nat → List Int → Nat → List Int
  | 0, out, _ => out
  | f + 1, out, b => if out.getD b 0 < 0 then markC nx k f (out.set b k) (nx b) else out
def compStep (nx : Nat → Nat) (N : Nat) (s : List Int × Nat) (a : Nat) : List Int × Nat := if 0 ≤ s.1.getD a 0 then s else (markC nx (s.2 : Int) N s.1 a, s.2 + 1)
def compTo (nx : Nat → Nat) (N a : Nat) : List Int × Nat := (List.range a).foldl (compStep nx N) (List.replicate N (-1), 0)
theorem compTo_succ (nx : Nat → Nat) (N a : Nat) : compTo nx N (a + 1) = compStep nx N (compTo nx N a) a := by simp [compTo, List.range_succ]
def nextN (d : Dia) (a : Nat) : Nat := (nextA d (a : Int)).toNat
def compOf (d : Dia) : List Int := (compTo (nextN d) (2 * d.cross.length) (2 * d.cross.length)).1
def compCount (d : Dia) : Nat := (compTo (nextN d) (2 * d.cross.length) (2 * d.cross.length)).2
theorem markC_stop {nx : Nat → Nat} {k : Int} {f : Nat} {out : List Int} {b : Nat} (h : ¬ out.getD b 0 < 0) : markC nx k f out b = out := by
  cases f with
  | zero => rfl
  | succ f => rw [markC, if_neg h]
theorem markC_go {nx : Nat → Nat} {k : Int} {f : Nat} {out : List Int} {b : Nat} (h : out.getD b 0 < 0) : markC nx k (f + 1) out b = markC nx k f (out.set b k) (nx b) := by rw [markC, if_pos h]
theorem markC_len (nx : Nat → Nat) (k : Int) : ∀ (f : Nat) (out : List Int) (b : Nat), (markC nx k f out b).length = out.length
  | 0, _, _ => rfl
  | f + 1, out, b => by
    rw [markC]
    split
    · rw [markC_len nx k f, List.length_set]
    · rfl
theorem compTo_len (nx : Nat → Nat) (N a : Nat) : (compTo nx N a).1.length = N := by
  induction a with
  | zero => simp [compTo]
  | succ a ih =>
    rw [compTo_succ, compStep]
    split
    · exact ih
    · rw [markC_len]; exact ih
theorem compTo_le (nx : Nat → Nat) (N a : Nat) : (compTo nx N a).2 ≤ a := by
  induction a with
  | zero => simp [compTo]
  | succ a ih =>
    rw [compTo_succ, compStep]
    split
    · omega
    · show _ + 1 ≤ _; omega
/-- How many numbers are below 0. -/
def negs (out : List Int) : Nat := (out.filter fun x => decide (x < 0)).length
theorem negs_le (out : List Int) : negs out ≤ out.length := List.length_filter_le _ _
theorem negs_set {out : List Int} {b : Nat} {k : Int} (hb : b < out.length) (h : out.getD b 0 < 0) (hk : 0 ≤ k) : negs (out.set b k) + 1 = negs out := by
  induction out generalizing b with
  | nil => simp at hb
  | cons x r ih =>
    cases b with
    | zero =>
      simp only [List.getD_cons_zero] at h
      have h2 : ¬ k < 0 := by omega
      simp [negs, h, h2]
    | succ b =>
      have := ih (b := b) (by simpa using hb) (by simpa using h)
      simp only [List.set_cons_succ]
      by_cases hx : x < 0 <;> simp [negs, hx] at this ⊢ <;> omega
theorem negs_pos {out : List Int} {b : Nat} (hb : b < out.length) (h : out.getD b 0 < 0) : 0 < negs out := by
  have := negs_set (k := 0) hb h (Int.le_refl _); omega
theorem getD_get {α : Type} {l : List α} {i : Nat} (h : i < l.length) (z : α) : l[i]? = some (l.getD i z) := by simp [List.getD_eq_getElem?_getD, h]
theorem cnt_le_one_unique {d : Dia} {a : Int} {inn : Bool} : ∀ {Q : Nat}, cnt d a inn Q ≤ 1 → ∀ q q', q < Q → q' < Q → matchAt d a inn q = true → matchAt d a inn q' = true → q = q' := by
  intro Q
  induction Q with
  | zero => intro _ q q' h; omega
  | succ Q ih =>
    intro h q q' hq hq' m m'
    rw [cnt_succ] at h
    have key : ∀ r, r < Q → matchAt d a inn r = true → 0 < cnt d a inn Q := by
      intro r hr hm
      simp only [cnt]
      apply List.length_pos_of_mem (a := r)
      simp [hr, hm]
    by_cases e : matchAt d a inn Q = true
    · rw [if_pos e] at h
      have h1 : q = Q := by
        rcases Nat.lt_or_ge q Q with h2 | h2
        · have := key q h2 m; omega
        · omega
      have h1' : q' = Q := by
        rcases Nat.lt_or_ge q' Q with h2 | h2
        · have := key q' h2 m'; omega
        · omega
      omega
    · rw [if_neg e] at h
      have h1 : q < Q := by
        rcases Nat.lt_or_ge q Q with h2 | h2
        · exact h2
        · have : q = Q := by omega
          subst this; exact absurd m e
      have h1' : q' < Q := by
        rcases Nat.lt_or_ge q' Q with h2 | h2
        · exact h2
        · have : q' = Q := by omega
          subst this; exact absurd m' e
      exact ih (by omega) q q' h1 h1' m m'
theorem cnt_pos_find {d : Dia} {a : Int} {inn : Bool} (h : 0 < cnt d a inn (4 * d.cross.length)) : ∃ q, findEnd d a inn = some q := by
  obtain ⟨r, hr⟩ := List.exists_mem_of_length_pos h
  simp at hr
  cases hf : findEnd d a inn with
  | some q => exact ⟨q, rfl⟩
  | none =>
    rw [findEnd, List.find?_eq_none] at hf
    exact absurd hr.2 (hf r (by simpa using hr.1))
theorem SoundP.find {d : Dia} (h : SoundP d) {a : Nat} (ha : a < 2 * d.cross.length) (inn : Bool) : ∃ q, findEnd d (a : Int) inn = some q := by
  obtain ⟨_, _, _, _, h5⟩ := h
  refine cnt_pos_find ?_
  cases inn
  · rw [(h5 a ha).1]; omega
  · rw [(h5 a ha).2]; omega
theorem SoundP.arc {d : Dia} (h : SoundP d) {c p : Nat} (hc : c < d.cross.length) (hp : p < 4) : 0 ≤ (crAt d c).arc p ∧ (crAt d c).arc p < 2 * d.cross.length :=
  (h.2.2.2.1 (crAt d c) (List.mem_of_getElem? (crAt_get hc))).2 p hp
theorem SoundP.next {d : Dia} (h : SoundP d) {a : Nat} (ha : a < 2 * d.cross.length) : nextA d (a : Int) = ((nextN d a : Nat) : Int) ∧ nextN d a < 2 * d.cross.length := by
  obtain ⟨q, hq⟩ := h.find ha true
  have h1 := (findEnd_some hq).1
  have h2 := h.arc (c := q / 4) (p := (q % 4 + 2) % 4) (by omega) (by omega)
  have e : nextA d (a : Int) = (crAt d (q / 4)).arc ((q % 4 + 2) % 4) := by rw [nextA, hq]
  simp only [nextN, e]
  omega
/-- The greatest number, and 1. -/
def maxOf (xs : List Int) : Int := xs.foldl (fun n x => max n (x + 1)) 0
def maxTo (xs : List Int) (a : Nat) : Int := maxOf (xs.take a)
theorem maxTo_succ {xs : List Int} {a : Nat} {y : Int} (h : xs[a]? = some y) : maxTo xs (a + 1) = max (maxTo xs a) (y + 1) := by
  simp only [maxTo, maxOf, List.take_add_one, h, Option.toList_some, List.foldl_append, List.foldl_cons, List.foldl_nil]
theorem maxTo_bound {xs : List Int} {m : Int} (h0 : 0 ≤ m) (h : ∀ x ∈ xs, x + 1 ≤ m) : ∀ a : Nat, 0 ≤ maxTo xs a ∧ maxTo xs a ≤ m := by
  intro a
  induction a with
  | zero => simp [maxTo, maxOf]; exact h0
  | succ a ih =>
    rcases Nat.lt_or_ge a xs.length with ha | ha
    · have hy : xs[a]? = some xs[a] := by simp [ha]
      rw [maxTo_succ hy]
      have := h xs[a] (by simp)
      omega
    · have e : maxTo xs (a + 1) = maxTo xs a := by simp only [maxTo]; rw [List.take_of_length_le (by omega), List.take_of_length_le ha]
      rw [e]; exact ih
theorem markC_le {nx : Nat → Nat} {k m : Int} (hk : k ≤ m) : ∀ (f : Nat) (out : List Int) (b : Nat), (∀ x ∈ out, x ≤ m) → ∀ x ∈ markC nx k f out b, x ≤ m
  | 0, _, _, h => h
  | f + 1, out, b, h => by
    rw [markC]
    split
    · refine markC_le hk f _ _ fun x hx => ?_
      rcases List.mem_or_eq_of_mem_set hx with hx | rfl
      · exact h x hx
      · exact hk
    · exact h
theorem compTo_vals (nx : Nat → Nat) (N a : Nat) : ∀ x ∈ (compTo nx N a).1, x ≤ (compTo nx N a).2 := by
  induction a with
  | zero => intro x hx; simp [compTo] at hx; simp [compTo]; omega
  | succ a ih =>
    rw [compTo_succ, compStep]
    split
    · exact ih
    · exact markC_le (by show ((compTo nx N a).2 : Int) ≤ ((compTo nx N a).2 + 1 : Nat); omega) N _ _ fun x hx => by have := ih x hx; show x ≤ (((compTo nx N a).2 + 1 : Nat) : Int); omega
theorem compOf_vals (d : Dia) : ∀ x ∈ compOf d, x ≤ 2 * d.cross.length := fun x hx => by
  have := compTo_vals _ _ _ x hx
  have h2 := compTo_le (nextN d) (2 * d.cross.length) (2 * d.cross.length)
  omega
theorem markC_ge {nx : Nat → Nat} {k : Int} (hk : -1 ≤ k) : ∀ (f : Nat) (out : List Int) (b : Nat), (∀ x ∈ out, -1 ≤ x) → ∀ x ∈ markC nx k f out b, -1 ≤ x
  | 0, _, _, h => h
  | f + 1, out, b, h => by
    rw [markC]
    split
    · refine markC_ge hk f _ _ fun x hx => ?_
      rcases List.mem_or_eq_of_mem_set hx with hx | rfl
      · exact h x hx
      · exact hk
    · exact h
theorem compTo_ge (nx : Nat → Nat) (N a : Nat) : ∀ x ∈ (compTo nx N a).1, -1 ≤ x := by
  induction a with
  | zero => intro x hx; simp [compTo] at hx; omega
  | succ a ih =>
    rw [compTo_succ, compStep]
    split
    · exact ih
    · exact markC_ge (by omega) N _ _ ih
theorem compOf_ge (d : Dia) : ∀ x ∈ compOf d, -1 ≤ x := compTo_ge _ _ _
theorem compOf_len (d : Dia) : (compOf d).length = 2 * d.cross.length := compTo_len _ _ _
/-! ### Counting -/
def cntL (d : Dia) (inn : Bool) (Q : Nat) : List Int := (List.range (2 * d.cross.length)).map fun a : Nat => (cnt d (a : Int) inn Q : Int)
theorem cntL_len (d : Dia) (inn : Bool) (Q : Nat) : (cntL d inn Q).length = 2 * d.cross.length := by simp [cntL]
theorem cntL_zero (d : Dia) (inn : Bool) : cntL d inn 0 = List.replicate (2 * d.cross.length) 0 := by
  apply List.ext_getElem?; intro i
  by_cases h : i < 2 * d.cross.length <;> simp [cntL, cnt_zero, h]
theorem cntL_get {d : Dia} {inn : Bool} {Q a : Nat} (ha : a < 2 * d.cross.length) : (cntL d inn Q)[a]? = some (cnt d (a : Int) inn Q : Int) := by simp [cntL, ha]
theorem cnt_bound (d : Dia) (a : Int) (inn : Bool) (Q : Nat) : cnt d a inn Q ≤ Q := by
  simp only [cnt]; have := List.length_filter_le (matchAt d a inn) (List.range Q); simpa using this
theorem cntL_same {d : Dia} {inn : Bool} {c p : Nat} {x : Cr} (hx : d.cross[c]? = some x) (hp : p < 4) (h : x.inn p ≠ inn) : cntL d inn (4 * c + (p + 1)) = cntL d inn (4 * c + p) := by
  simp only [cntL]
  apply List.map_congr_left
  intro a _
  rw [show 4 * c + (p + 1) = 4 * c + p + 1 by omega, cnt_succ, matchAt_eq hx hp]
  have : (x.inn p == inn) = false := by simpa using h
  simp [this]
theorem cntL_set {d : Dia} {inn : Bool} {c p m : Nat} {x : Cr} (hx : d.cross[c]? = some x) (hp : p < 4) (h : x.inn p = inn) (hm : x.arc p = (m : Int)) (hl : m < 2 * d.cross.length) :
    (cntL d inn (4 * c + p)).set m ((cnt d (m : Int) inn (4 * c + p) : Int) + 1) = cntL d inn (4 * c + (p + 1)) := by
  apply List.ext_getElem?
  intro a
  rw [List.getElem?_set, cntL_len]
  have key : ∀ a : Nat, cnt d (a : Int) inn (4 * c + (p + 1)) = cnt d (a : Int) inn (4 * c + p) + if m = a then 1 else 0 := by
    intro a
    rw [show 4 * c + (p + 1) = 4 * c + p + 1 by omega, cnt_succ, matchAt_eq hx hp, hm, h]
    by_cases e : m = a
    · subst e; simp
    · have : ¬ ((m : Int) = (a : Int)) := by omega
      simp [e, this]
  by_cases ha : a < 2 * d.cross.length
  · by_cases e : m = a
    · subst e
      rw [if_pos rfl, if_pos hl, cntL_get ha, key]; simp
    · rw [if_neg e, cntL_get ha, cntL_get ha, key]; simp [e]
  · rw [if_neg (by omega), List.getElem?_eq_none (by rw [cntL_len]; omega), List.getElem?_eq_none (by rw [cntL_len]; omega)]
noncomputable def soundB (d : Dia) : Bool := @decide (SoundP d) (Classical.propDecidable _)
theorem soundB_true {d : Dia} (h : SoundP d) : Value.bool true = .bool (soundB d) := congrArg Value.bool (@decide_eq_true _ (Classical.propDecidable _) h).symm
theorem soundB_false {d : Dia} (h : ¬ SoundP d) : Value.bool false = .bool (soundB d) := congrArg Value.bool (@decide_eq_false _ (Classical.propDecidable _) h).symm
theorem soundB_iff {d : Dia} : soundB d = true ↔ SoundP d := @decide_eq_true_iff _ (Classical.propDecidable _)
theorem arc_nat {x : Cr} {p : Nat} (h : 0 ≤ x.arc p) : x.arc p = ((x.arc p).toNat : Int) := (Int.toNat_of_nonneg h).symm
/-! ### Places and regions -/
def encQ (q : Nat) : List Value := [iv ((q / 4 : Nat) : Int), iv ((q % 4 : Nat) : Int)]
theorem encQ_len (q : Nat) : (encQ q).length = 2 := rfl
theorem encQ_at {qs : List Nat} {m q : Nat} (h : qs[m]? = some q) : ∀ j u, [iv ((q / 4 : Nat) : Int), iv ((q % 4 : Nat) : Int)][j]? = some u → (qs.flatMap encQ)[m * 2 + j]? = some u := fun _ _ hu => flat_get encQ_len h hu
def otherQ (d : Dia) (q : Nat) : Nat := (findEnd d (arcQ d q) (!innQ d q)).getD 0
def stepQ (d : Dia) (q : Nat) : Nat := 4 * (otherQ d q / 4) + (otherQ d q % 4 + 3) % 4
theorem SoundP.arcQ {d : Dia} (h : SoundP d) {q : Nat} (hq : q < 4 * d.cross.length) : 0 ≤ arcQ d q ∧ arcQ d q < 2 * d.cross.length := h.arc (c := q / 4) (p := q % 4) (by omega) (by omega)
theorem SoundP.other {d : Dia} (h : SoundP d) {q : Nat} (hq : q < 4 * d.cross.length) : findEnd d (V.arcQ d q) (!innQ d q) = some (otherQ d q) := by
  have ha := h.arcQ hq
  obtain ⟨r, hr⟩ := h.find (a := (V.arcQ d q).toNat) (by omega) (!innQ d q)
  rw [Int.toNat_of_nonneg ha.1] at hr
  simp [otherQ, hr]
theorem SoundP.other_lt {d : Dia} (h : SoundP d) {q : Nat} (hq : q < 4 * d.cross.length) : otherQ d q < 4 * d.cross.length := (findEnd_some (h.other hq)).1
theorem SoundP.step_lt {d : Dia} (h : SoundP d) {q : Nat} (hq : q < 4 * d.cross.length) : stepQ d q < 4 * d.cross.length := by
  have := h.other_lt hq; simp only [stepQ]; omega
theorem SoundP.match_unique {d : Dia} (h : SoundP d) {a : Nat} (ha : a < 2 * d.cross.length) {inn : Bool} {q q' : Nat} (hq : q < 4 * d.cross.length) (hq' : q' < 4 * d.cross.length) (m : matchAt d (a : Int) inn q = true) (m' : matchAt d (a : Int) inn q' = true) : q = q' := by
  have h5 := h.2.2.2.2 a ha
  cases inn
  · exact cnt_le_one_unique (by rw [h5.1]; omega) q q' hq hq' m m'
  · exact cnt_le_one_unique (by rw [h5.2]; omega) q q' hq hq' m m'
theorem SoundP.place_unique {d : Dia} (h : SoundP d) {q q' : Nat} (hq : q < 4 * d.cross.length) (hq' : q' < 4 * d.cross.length) (ha : V.arcQ d q = V.arcQ d q') (hi : innQ d q = innQ d q') : q = q' := by
  have h1 := h.arcQ hq
  refine h.match_unique (a := (V.arcQ d q).toNat) (inn := innQ d q) (by omega) hq hq' ?_ ?_
  · rw [matchAt_iff hq, Int.toNat_of_nonneg h1.1]; exact ⟨rfl, rfl⟩
  · rw [matchAt_iff hq', Int.toNat_of_nonneg h1.1]; exact ⟨ha.symm, hi.symm⟩
theorem SoundP.other_other {d : Dia} (h : SoundP d) {q : Nat} (hq : q < 4 * d.cross.length) : otherQ d (otherQ d q) = q := by
  have h1 := findEnd_some (h.other hq)
  have h2 := findEnd_some (h.other h1.1)
  refine h.place_unique h2.1 hq (h2.2.1.trans h1.2.1) ?_
  rw [h2.2.2.1, h1.2.2.1, Bool.not_not]
theorem SoundP.step_inj {d : Dia} (h : SoundP d) {q q' : Nat} (hq : q < 4 * d.cross.length) (hq' : q' < 4 * d.cross.length) (e : stepQ d q = stepQ d q') : q = q' := by
  have h1 : otherQ d q = otherQ d q' := by simp only [stepQ] at e; omega
  rw [← h.other_other hq, h1, h.other_other hq']
/-! ### Orbits -/
def iter (f : Nat → Nat) : Nat → Nat → Nat
  | 0, x => x
  | k + 1, x => iter f k (f x)
theorem iter_succ (f : Nat → Nat) : ∀ (k x : Nat), iter f (k + 1) x = f (iter f k x)
  | 0, _ => rfl
  | k + 1, x => by rw [iter, iter_succ f k (f x)]; rfl
theorem iter_add (f : Nat → Nat) (a : Nat) : ∀ (b x : Nat), iter f (a + b) x = iter f a (iter f b x)
  | 0, _ => rfl
  | b + 1, x => by rw [← Nat.add_assoc, iter, iter_add f a b (f x)]; rfl
theorem iter_lt {f : Nat → Nat} {N : Nat} (hf : ∀ x, x < N → f x < N) : ∀ (k x : Nat), x < N → iter f k x < N
  | 0, _, h => h
  | k + 1, x, h => iter_lt hf k (f x) (hf x h)
/-- A permutation of the numbers below N comes back. -/
theorem comes_back {f : Nat → Nat} {N : Nat} (hf : ∀ x, x < N → f x < N) (hi : ∀ x y, x < N → y < N → f x = f y → x = y) {x : Nat} (hx : x < N) : ∃ j, j < N ∧ iter f (j + 1) x = x := by
  -- among the first N + 1 iterates two are equal
  have hpig : ∃ a b, a < b ∧ b ≤ N ∧ iter f a x = iter f b x := by
    refine Classical.byContradiction fun hno => ?_
    have hnd : ((List.range (N + 1)).map fun k => iter f k x).Nodup := by
      rw [List.nodup_iff_pairwise_ne]
      rw [List.pairwise_map]
      refine List.Pairwise.imp_of_mem ?_ (List.pairwise_lt_range)
      intro a b _ hb hab e
      exact hno ⟨a, b, hab, by have := List.mem_range.1 hb; omega, e⟩
    have hsub : ((List.range (N + 1)).map fun k => iter f k x) ⊆ List.range N := by
      intro y hy
      obtain ⟨k, _, rfl⟩ := List.mem_map.1 hy
      exact List.mem_range.2 (iter_lt hf k x hx)
    have := List.Nodup.length_le_of_subset hnd hsub
    simp only [List.length_map, List.length_range] at this
    omega
  obtain ⟨a, b, hab, hb, e⟩ := hpig
  -- take off the first a steps
  have back : ∀ (a b : Nat), a ≤ b → iter f a x = iter f b x → iter f (b - a) x = x := by
    intro a
    induction a with
    | zero => intro b _ e; simpa [iter] using e.symm
    | succ a ih =>
      intro b hab e
      obtain ⟨b, rfl⟩ : ∃ c, b = c + 1 := ⟨b - 1, by omega⟩
      rw [iter_succ, iter_succ] at e
      have := hi _ _ (iter_lt hf a x hx) (iter_lt hf b x hx) e
      have := ih b (by omega) this
      rwa [show b + 1 - (a + 1) = b - a by omega]
  exact ⟨b - a - 1, by omega, by rw [show b - a - 1 + 1 = b - a by omega]; exact back a b (by omega) e⟩
def orbGo (f : Nat → Nat) (q0 : Nat) : Nat → Nat → List Nat
  | 0, _ => []
  | k + 1, x => x :: (if f x = q0 then [] else orbGo f q0 k (f x))
theorem orbGo_last {f : Nat → Nat} {q0 k x : Nat} (h : f x = q0) : orbGo f q0 (k + 1) x = [x] := by rw [orbGo, if_pos h]
theorem orbGo_next {f : Nat → Nat} {q0 k x : Nat} (h : ¬ f x = q0) : orbGo f q0 (k + 1) x = x :: orbGo f q0 k (f x) := by rw [orbGo, if_neg h]
def regionOf (d : Dia) (q : Nat) : List Nat := orbGo (stepQ d) q (4 * d.cross.length) q
theorem SoundP.back {d : Dia} (h : SoundP d) {q : Nat} (hq : q < 4 * d.cross.length) : ∃ j, j ≤ 4 * d.cross.length - 1 ∧ iter (stepQ d) (j + 1) q = q := by
  obtain ⟨j, hj, e⟩ := comes_back (fun x hx => h.step_lt hx) (fun x y hx hy e => h.step_inj hx hy e) hq
  exact ⟨j, by omega, e⟩
def regStep (d : Dia) (out : List (List Nat)) (q : Nat) : List (List Nat) := if out.any (fun r => r.contains q) then out else out ++ [regionOf d q]
def regsTo (d : Dia) (Q : Nat) : List (List Nat) := (List.range Q).foldl (regStep d) []
def regsOf (d : Dia) : List (List Nat) := regsTo d (4 * d.cross.length)
theorem regsTo_succ (d : Dia) (Q : Nat) : regsTo d (Q + 1) = regStep d (regsTo d Q) Q := by simp [regsTo, List.range_succ]
theorem regsTo_len (d : Dia) (Q : Nat) : (regsTo d Q).length ≤ Q := by
  induction Q with
  | zero => simp [regsTo]
  | succ Q ih => rw [regsTo_succ, regStep]; split; omega; simp; omega
theorem orbGo_len (f : Nat → Nat) (q0 : Nat) : ∀ (k x : Nat), (orbGo f q0 k x).length ≤ k
  | 0, _ => by simp [orbGo]
  | k + 1, x => by
    rw [orbGo]
    split
    · simp
    · simp; exact orbGo_len f q0 k _
theorem orbGo_lt {f : Nat → Nat} {N : Nat} (hf : ∀ x, x < N → f x < N) (q0 : Nat) : ∀ (k x : Nat), x < N → ∀ y ∈ orbGo f q0 k x, y < N
  | 0, _, _, y, hy => by simp [orbGo] at hy
  | k + 1, x, hx, y, hy => by
    rw [orbGo] at hy
    rcases List.mem_cons.1 hy with rfl | hy
    · exact hx
    · split at hy
      · simp at hy
      · exact orbGo_lt hf q0 k _ (hf x hx) y hy
def regHL (a : Value × List Nat) : HL := HL.own 43 2 a.1 a.2.length (a.2.flatMap encQ)
theorem regionOf_len (d : Dia) (q : Nat) : (regionOf d q).length ≤ 4 * d.cross.length := orbGo_len _ _ _ _
theorem regsTo_mem (d : Dia) (Q : Nat) : ∀ r ∈ regsTo d Q, ∃ q, q < Q ∧ r = regionOf d q := by
  induction Q with
  | zero => intro r hr; simp [regsTo] at hr
  | succ Q ih =>
    intro r hr
    rw [regsTo_succ, regStep] at hr
    split at hr
    · obtain ⟨q, h, e⟩ := ih r hr; exact ⟨q, by omega, e⟩
    · rcases List.mem_append.1 hr with hr | hr
      · obtain ⟨q, h, e⟩ := ih r hr; exact ⟨q, by omega, e⟩
      · exact ⟨Q, by omega, List.mem_singleton.1 hr⟩
theorem regsTo_mem_len {d : Dia} {Q : Nat} {as : List (Value × List Nat)} (h : as.map Prod.snd = regsTo d Q) {a : Value × List Nat} (ha : a ∈ as) : a.2.length ≤ 4 * d.cross.length := by
  obtain ⟨q, _, e⟩ := regsTo_mem d Q a.2 (by rw [← h]; exact List.mem_map_of_mem ha)
  rw [e]; exact regionOf_len d q
theorem regsTo_as_len {d : Dia} {Q : Nat} {as : List (Value × List Nat)} (h : as.map Prod.snd = regsTo d Q) : as.length ≤ Q := by
  have := regsTo_len d Q; rw [← h, List.length_map] at this; exact this
theorem regs_push {d : Dia} {Q : Nat} {as : List (Value × List Nat)} {v : Value} (h : as.map Prod.snd = regsTo d Q) (hn : as.any (fun a => a.2.contains Q) = false) : (as ++ [(v, regionOf d Q)]).map Prod.snd = regsTo d (Q + 1) := by
  rw [regsTo_succ, regStep, ← h, any_snd, if_neg (by rw [hn]; simp), List.map_append]; rfl
theorem regs_keep {d : Dia} {Q : Nat} {as : List (Value × List Nat)} (h : as.map Prod.snd = regsTo d Q) (hn : as.any (fun a => a.2.contains Q) = true) : as.map Prod.snd = regsTo d (Q + 1) := by
  rw [regsTo_succ, regStep, ← h, any_snd, if_pos hn]
theorem step_div (d : Dia) (q : Nat) : stepQ d q / 4 = otherQ d q / 4 := by simp only [stepQ]; omega
theorem step_mod (d : Dia) (q : Nat) : stepQ d q % 4 = (otherQ d q % 4 + 3) % 4 := by simp only [stepQ]; omega
theorem flatQ_snoc {qs : List Nat} {y : Nat} {a b : Int} (h1 : a = ((y / 4 : Nat) : Int)) (h2 : b = ((y % 4 : Nat) : Int)) : qs.flatMap encQ ++ [iv a, iv b] = (qs ++ [y]).flatMap encQ := by
  subst h1; subst h2
  rw [List.flatMap_append]; rfl
end Go.V
