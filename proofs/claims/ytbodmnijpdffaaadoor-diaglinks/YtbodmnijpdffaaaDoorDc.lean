/- Diagrams as data, part c: the ends of arcs, as the program keeps them. -/
import Derived.Test.YtbodmnijpdffaaaDoorDb
import Derived.Test.YtbodmnijpdffaaaDoorVh
namespace Go.V
open Go
def plV (q : Nat) : Value := .agg #[iv ((q / 4 : Nat) : Int), iv ((q % 4 : Nat) : Int)]
def keyQ (d : Dia) (q : Nat) : Int × Bool := (arcQ d q, !innQ d q)
def metTo (d : Dia) (Q : Nat) : List ((Int × Bool) × Value) := (List.range Q).map fun q => (keyQ d q, plV q)
theorem mget_map {κ : Type} [DecidableEq κ] {α : Type} (f : α → κ) (g : α → Value) (k : κ) : ∀ l : List α, mget (l.map fun q => (f q, g q)) k = (l.find? fun q => decide (f q = k)).map g
  | [] => rfl
  | q :: r => by
    simp only [List.map_cons, mget, List.find?_cons]
    by_cases h : f q = k
    · simp [h]
    · simp [h, mget_map f g k r]
theorem find_congr {α : Type} {f g : α → Bool} : ∀ {l : List α}, (∀ x ∈ l, f x = g x) → l.find? f = l.find? g
  | [], _ => rfl
  | x :: r, h => by
    rw [List.find?_cons, List.find?_cons, h x (List.mem_cons_self ..), find_congr fun y hy => h y (List.mem_cons_of_mem _ hy)]
theorem mget_met {d : Dia} {Q : Nat} (hQ : Q ≤ 4 * d.cross.length) (a : Int) (o : Bool) : mget (metTo d Q) (a, o) = ((List.range Q).find? (matchAt d a (!o))).map plV := by
  rw [metTo, mget_map]
  congr 1
  refine find_congr fun q hq => ?_
  have hq : q < 4 * d.cross.length := by have := List.mem_range.1 hq; omega
  rw [Bool.eq_iff_iff, matchAt_iff hq, decide_eq_true_iff, keyQ, Prod.mk.injEq]
  cases o <;> cases innQ d q <;> simp
def rC : Option Nat → Int
  | some q => ((q / 4 : Nat) : Int)
  | none => 0
def rP : Option Nat → Int
  | some q => ((q % 4 : Nat) : Int)
  | none => 0
def metAt (d : Dia) (Q : Nat) (a : Int) (o : Bool) : Option Nat := (List.range Q).find? (matchAt d a (!o))
theorem met_val {d : Dia} {Q : Nat} (hQ : Q ≤ 4 * d.cross.length) (a : Int) (o : Bool) : (mget (metTo d Q) (a, o)).getD (.agg #[iv 0, iv 0]) = .agg #[iv (rC (metAt d Q a o)), iv (rP (metAt d Q a o))] := by
  rw [mget_met hQ, metAt]
  cases (List.range Q).find? (matchAt d a (!o)) <;> rfl
theorem met_is {d : Dia} {Q : Nat} (hQ : Q ≤ 4 * d.cross.length) (a : Int) (o : Bool) : (mget (metTo d Q) (a, o)).isSome = (metAt d Q a o).isSome := by
  rw [mget_met hQ, metAt]; cases (List.range Q).find? (matchAt d a (!o)) <;> rfl
theorem metAt_some {d : Dia} {Q : Nat} (hQ : Q ≤ 4 * d.cross.length) {a : Int} {o : Bool} (h : (metAt d Q a o).isSome = true) : ∃ q, q < Q ∧ arcQ d q = a ∧ innQ d q = !o := by
  obtain ⟨q, hq⟩ := Option.isSome_iff_exists.1 h
  have h1 := List.mem_range.1 (List.mem_of_find?_eq_some hq)
  have h2 := List.find?_some hq
  exact ⟨q, h1, (matchAt_iff (by omega)).1 h2⟩
theorem metAt_none {d : Dia} {Q : Nat} (hQ : Q ≤ 4 * d.cross.length) {a : Int} {o : Bool} (h : (metAt d Q a o).isSome = false) {q : Nat} (hq : q < Q) : ¬ (arcQ d q = a ∧ innQ d q = !o) := fun k => by
  have h1 : metAt d Q a o = none := by simpa using h
  rw [metAt, List.find?_eq_none] at h1
  exact h1 q (List.mem_range.2 hq) ((matchAt_iff (by omega)).2 k)
theorem arcQ_at {d : Dia} {c p : Nat} {x : Cr} (hx : d.cross[c]? = some x) (hp : p < 4) : arcQ d (4 * c + p) = x.arc p := by
  rw [arcQ, show (4 * c + p) / 4 = c by omega, show (4 * c + p) % 4 = p by omega, crAt_eq hx]
theorem innQ_at {d : Dia} {c p : Nat} {x : Cr} (hx : d.cross[c]? = some x) (hp : p < 4) : innQ d (4 * c + p) = x.inn p := by
  rw [innQ, show (4 * c + p) / 4 = c by omega, show (4 * c + p) % 4 = p by omega, crAt_eq hx]
theorem met_next {d : Dia} {c p : Nat} {x : Cr} (hx : d.cross[c]? = some x) (hp : p < 4) (hn : (metAt d (4 * c + p) (x.arc p) (!x.inn p)).isSome = false) :
    mput (metTo d (4 * c + p)) (x.arc p, !x.inn p) (.agg #[iv c, iv p]) = metTo d (4 * c + (p + 1)) := by
  have hc := (List.getElem?_eq_some_iff.1 hx).1
  rw [← met_is (by omega)] at hn
  rw [mput_new (by simpa using hn)]
  rw [show 4 * c + (p + 1) = 4 * c + p + 1 by omega, metTo, metTo, List.range_succ, List.map_append, List.map_cons, List.map_nil, keyQ, arcQ_at hx hp, innQ_at hx hp, plV,
    show (4 * c + p) / 4 = c by omega, show (4 * c + p) % 4 = p by omega]
/-- The first Q places use arcs in range, each one once each way. -/
def UseOk (d : Dia) (Q : Nat) : Prop := (∀ q, q < Q → 0 ≤ arcQ d q ∧ arcQ d q < 2 * d.cross.length) ∧ ∀ q q', q < q' → q' < Q → arcQ d q = arcQ d q' → innQ d q = innQ d q' → False
theorem UseOk.zero (d : Dia) : UseOk d 0 := ⟨fun q h => by omega, fun q q' h h' => by omega⟩
theorem UseOk.next {d : Dia} {c p : Nat} {x : Cr} (h : UseOk d (4 * c + p)) (hx : d.cross[c]? = some x) (hp : p < 4) (hn : (metAt d (4 * c + p) (x.arc p) (!x.inn p)).isSome = false) (h0 : 0 ≤ x.arc p) (h1 : x.arc p < 2 * d.cross.length) : UseOk d (4 * c + (p + 1)) := by
  have hc := (List.getElem?_eq_some_iff.1 hx).1
  refine ⟨fun q hq => ?_, fun q q' hqq hq ha hi => ?_⟩
  · rcases Nat.lt_or_ge q (4 * c + p) with h2 | h2
    · exact h.1 q h2
    · obtain rfl : q = 4 * c + p := by omega
      rw [arcQ_at hx hp]; exact ⟨h0, h1⟩
  · rcases Nat.lt_or_ge q' (4 * c + p) with h2 | h2
    · exact h.2 q q' hqq h2 ha hi
    · obtain rfl : q' = 4 * c + p := by omega
      rw [arcQ_at hx hp] at ha
      rw [innQ_at hx hp] at hi
      exact metAt_none (by omega) hn hqq ⟨ha, by rw [hi, Bool.not_not]⟩
theorem nodup_one {α : Type} {l : List α} (hn : l.Nodup) (h : ∀ x ∈ l, ∀ y ∈ l, x = y) : l.length ≤ 1 := by
  match l, hn, h with
  | [], _, _ => simp
  | [_], _, _ => simp
  | x :: y :: r, hn, h =>
    have e := h x (by simp) y (by simp)
    subst e
    simp at hn
theorem useOk_count {d : Dia} (h : UseOk d (4 * d.cross.length)) {a : Nat} (ha : a < 2 * d.cross.length) (inn : Bool) : cnt d (a : Int) inn (4 * d.cross.length) = 1 := by
  have hle : cnt d (a : Int) inn (4 * d.cross.length) ≤ 1 := by
    refine nodup_one (List.Nodup.sublist List.filter_sublist List.nodup_range) fun q hq q' hq' => ?_
    rw [List.mem_filter, List.mem_range] at hq hq'
    have h1 := (matchAt_iff hq.1).1 hq.2
    have h2 := (matchAt_iff hq'.1).1 hq'.2
    rcases Nat.lt_trichotomy q q' with h3 | h3 | h3
    · exact (h.2 q q' h3 hq'.1 (h1.1.trans h2.1.symm) (h1.2.trans h2.2.symm)).elim
    · exact h3
    · exact (h.2 q' q h3 hq.1 (h2.1.trans h1.1.symm) (h2.2.trans h1.2.symm)).elim
  -- all pairs are met
  let K := (List.range (4 * d.cross.length)).map fun q => 2 * (arcQ d q).toNat + (if innQ d q then 1 else 0)
  have hK : K.Nodup := by
    rw [List.nodup_iff_pairwise_ne]
    refine (List.pairwise_map.2 (List.Pairwise.imp_of_mem ?_ List.pairwise_lt_range))
    intro q q' hq hq' hlt e
    have h1 := h.1 q (List.mem_range.1 hq)
    have h2 := h.1 q' (List.mem_range.1 hq')
    refine h.2 q q' hlt (List.mem_range.1 hq') ?_ ?_
    · split at e <;> split at e <;> omega
    · cases hi : innQ d q <;> cases hi' : innQ d q' <;> simp [hi, hi'] at e ⊢ <;> omega
  have hmem : 2 * a + (if inn then 1 else 0) ∈ K := by
    refine Classical.byContradiction fun hno => ?_
    have hsub : K ⊆ (List.range (4 * d.cross.length)).erase (2 * a + (if inn then 1 else 0)) := by
      intro y hy
      have hne : y ≠ 2 * a + (if inn then 1 else 0) := fun e => hno (e ▸ hy)
      rw [List.mem_erase_of_ne hne, List.mem_range]
      obtain ⟨q, hq, rfl⟩ := List.mem_map.1 hy
      have h1 := h.1 q (List.mem_range.1 hq)
      split <;> omega
    have hl := List.Nodup.length_le_of_subset hK hsub
    have hin : 2 * a + (if inn then 1 else 0) ∈ List.range (4 * d.cross.length) := List.mem_range.2 (by split <;> omega)
    rw [List.length_erase_of_mem hin, List.length_range] at hl
    simp only [K, List.length_map, List.length_range] at hl
    omega
  obtain ⟨q, hq, e⟩ := List.mem_map.1 hmem
  have hq := List.mem_range.1 hq
  have h1 := h.1 q hq
  have hm : matchAt d (a : Int) inn q = true := by
    rw [matchAt_iff hq]
    cases hi : innQ d q <;> cases inn <;> simp [hi] at e ⊢ <;> omega
  have : 0 < cnt d (a : Int) inn (4 * d.cross.length) := List.length_pos_of_mem (List.mem_filter.2 ⟨List.mem_range.2 hq, hm⟩)
  omega
theorem sound_of_use {d : Dia} (h0 : d.cross.length ≤ 200) (h1 : 0 ≤ d.loops) (h2 : d.loops ≤ 200) (hs : ∀ (c : Nat) (x : Cr), d.cross[c]? = some x → x.s = 1 ∨ x.s = -1) (h : UseOk d (4 * d.cross.length)) : SoundP d := by
  refine ⟨h0, h1, h2, fun x hx => ?_, fun a ha => ⟨useOk_count h ha false, useOk_count h ha true⟩⟩
  obtain ⟨c, hc⟩ := List.getElem?_of_mem hx
  refine ⟨hs c x hc, fun p hp => ?_⟩
  have hlt := (List.getElem?_eq_some_iff.1 hc).1
  have := h.1 (4 * c + p) (by omega)
  rwa [arcQ_at hc hp] at this
theorem not_sound_twice {d : Dia} {c p : Nat} {x : Cr} (hx : d.cross[c]? = some x) (hp : p < 4) (hn : (metAt d (4 * c + p) (x.arc p) (!x.inn p)).isSome = true) : ¬ SoundP d := fun hs => by
  have hc := (List.getElem?_eq_some_iff.1 hx).1
  obtain ⟨q, hq, ha, hi⟩ := metAt_some (by omega) hn
  have := hs.place_unique (q := q) (q' := 4 * c + p) (by omega) (by omega) (by rw [ha, arcQ_at hx hp]) (by rw [hi, innQ_at hx hp, Bool.not_not])
  omega
/-! ### The list of ends -/
abbrev AE := Option Nat × Option Nat
def encAE (x : AE) : List Value := [iv (rC x.1), iv (rP x.1), iv (rC x.2), iv (rP x.2)]
theorem encAE_len (x : AE) : (encAE x).length = 4 := rfl
def endsAt (d : Dia) (i : Nat) : AE := (findEnd d (i : Int) false, findEnd d (i : Int) true)
def endsTo (d : Dia) (a : Nat) : List AE := (List.range (2 * d.cross.length)).map fun i => if i < a then endsAt d i else (none, none)
def endsL (d : Dia) : List AE := (List.range (2 * d.cross.length)).map (endsAt d)
theorem endsTo_len (d : Dia) (a : Nat) : (endsTo d a).length = 2 * d.cross.length := by simp [endsTo]
theorem endsL_len (d : Dia) : (endsL d).length = 2 * d.cross.length := by simp [endsL]
theorem endsL_get {d : Dia} {a : Nat} (h : a < 2 * d.cross.length) : (endsL d)[a]? = some (endsAt d a) := by simp [endsL, h]
theorem endsTo_all (d : Dia) : endsTo d (2 * d.cross.length) = endsL d := by
  simp only [endsTo, endsL]
  exact List.map_congr_left fun i hi => by rw [if_pos (List.mem_range.1 hi)]
theorem endsTo_set {d : Dia} {a : Nat} (ha : a < 2 * d.cross.length) : (endsTo d a).set a (endsAt d a) = endsTo d (a + 1) := by
  apply List.ext_getElem?
  intro i
  rw [List.getElem?_set, endsTo_len]
  by_cases h : i < 2 * d.cross.length
  · by_cases e : a = i
    · subst e; simp [endsTo, h]
    · simp only [if_neg e, endsTo, List.getElem?_map, List.getElem?_range h, Option.map_some]
      have : (i < a) ↔ (i < a + 1) := by omega
      simp [this]
  · rw [if_neg (by omega), List.getElem?_eq_none (by simp [endsTo_len]; omega), List.getElem?_eq_none (by simp [endsTo_len]; omega)]
theorem flatMap_const {α β : Type} (l : List α) (z : List β) : l.flatMap (fun _ => z) = (List.replicate l.length z).flatten := by
  induction l with
  | nil => rfl
  | cons x r ih => simp [List.flatMap_cons, ih, List.replicate_succ]
theorem endsTo_zero (d : Dia) : (zeros (2 * d.cross.length) [iv 0, iv 0, iv 0, iv 0]).toList = (endsTo d 0).flatMap encAE := by
  rw [endsTo, List.flatMap_map]
  simp only [zeros, Nat.not_lt_zero, if_false]
  rw [flatMap_const, List.length_range]
  rfl
theorem arc_index {x : Cr} {p : Nat} (hp : p < 4) : (#[iv x.a0, iv x.a1, iv x.a2, iv x.a3])[((p : Nat) : Int).toNat]? = some (iv (x.arc p)) := by
  match p, hp with
  | 0, _ => rfl
  | 1, _ => rfl
  | 2, _ => rfl
  | 3, _ => rfl
theorem out_inn {x : Cr} {p : Nat} (hp : p < 4) (hs : x.s = 1 ∨ x.s = -1) : x.inn p = decide (¬ (p = 2 ∨ (p : Int) = 2 - x.s)) := by
  rw [Cr.inn]; apply decide_eq_decide.2; omega
/-- A valid place of the program: the struct 'diagram' in block b. -/
structure DgAt (w : World) (b : Nat) (base : Option Addr) (A : Addr) (cap : Nat) (d : Dia) (av : Value) : Prop where
  c0 : w.cell? ⟨b, 0, none⟩ = some (.slice base d.cross.length cap)
  c1 : w.cell? ⟨b, 1, none⟩ = some (iv d.loops)
  c2 : w.cell? ⟨b, 2, none⟩ = some av
  dia : DiaAt w base A d
  sh : Shape av (2 * d.cross.length)
  arcs : Cells w (vaddr av) ((endsL d).flatMap encAE)
theorem DgAt.old {w w' : World} {b : Nat} {base : Option Addr} {A : Addr} {cap : Nat} {d : Dia} {av : Value} (h : DgAt w b base A cap d av) (ho : Old Nil w w') : DgAt w' b base A cap d av :=
  ⟨ho.cell h.c0 (fun x => x), ho.cell h.c1 (fun x => x), ho.cell h.c2 (fun x => x), h.dia.old ho, h.sh, fun j v hj => ho.cell (h.arcs j v hj) (fun x => x)⟩
theorem DgAt.sym {w w' : World} {L : List HL} {b : Nat} {base : Option Addr} {A : Addr} {cap : Nat} {d : Dia} {av : Value} (h : DgAt w b base A cap d av) (hs : Sym w Nil L w') : DgAt w' b base A cap d av := h.old hs.old
abbrev ptrV (b : Nat) : Value := .pointer (some ⟨b, 0, none⟩)
abbrev plcV (q : Nat) : Value := .agg #[iv ((q / 4 : Nat) : Int), iv ((q % 4 : Nat) : Int)]
theorem SoundP.find_self {d : Dia} (hs : SoundP d) {q : Nat} (hq : q < 4 * d.cross.length) : findEnd d (V.arcQ d q) (innQ d q) = some q := by
  obtain ⟨r, hr⟩ := hs.find (a := (V.arcQ d q).toNat) (by have := hs.arcQ hq; omega) (innQ d q)
  rw [Int.toNat_of_nonneg (hs.arcQ hq).1] at hr
  have h := findEnd_some hr
  rw [hr, hs.place_unique h.1 hq h.2.1 h.2.2.1]
theorem SoundP.ends_at {d : Dia} (hs : SoundP d) {q : Nat} (hq : q < 4 * d.cross.length) : (otherQ d q ≠ q) ∧ ((endsAt d (V.arcQ d q).toNat).1 = some q ∧ (endsAt d (V.arcQ d q).toNat).2 = some (otherQ d q) ∨ (endsAt d (V.arcQ d q).toNat).1 = some (otherQ d q) ∧ (endsAt d (V.arcQ d q).toNat).2 = some q) := by
  have h1 := hs.find_self hq
  have h2 := hs.other hq
  have h3 := (findEnd_some h2).2.2.1
  refine ⟨fun e => by rw [e] at h3; cases h : innQ d q <;> simp [h] at h3, ?_⟩
  simp only [endsAt]
  rw [Int.toNat_of_nonneg (hs.arcQ hq).1]
  cases h : innQ d q
  · rw [h] at h1 h2; exact .inl ⟨h1, h2⟩
  · rw [h] at h1 h2; exact .inr ⟨h2, h1⟩
/-- What 'ends' gives. -/
noncomputable def endsN (d : Dia) : Nat := bif soundB d then 2 * d.cross.length else 0
noncomputable def endsC (d : Dia) : List Value := bif soundB d then (endsL d).flatMap encAE else []
end Go.V
