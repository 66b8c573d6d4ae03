/- Plain laws, part v: linking numbers and writhes of changed diagrams; lists of numbers that a call owns. -/
import Derived.Test.YtbodmnijpdffaaaDoorDu
namespace Go.V
open Go
theorem IntsAt.of_own {w : World} {b : Option Addr} {c : Nat} {xs : List Int} (h : w.ownsRow 0 3 1 (.slice b xs.length c) xs.length (ints xs)) : IntsAt w b (vaddr (.slice b xs.length c)) c xs := by
  have hall := own_all h
  rcases h.2 with ⟨hv, h0⟩ | ⟨g, cap, cur, hv, _, _, hle, hcap, _⟩
  · injection hv with e1 e2 e3
    subst e1; subst e3
    exact ⟨fun k => by omega, hall, by omega, by omega⟩
  · injection hv with e1 e2 e3
    subst e1; subst e3
    exact ⟨fun _ => rfl, hall, hle, by have : maxLen = 9223372036854775807 := rfl; omega⟩
/-- The numbers below k. -/
def upTo (k : Nat) : List Int := (List.range k).map fun i : Nat => (i : Int)
theorem upTo_len (k : Nat) : (upTo k).length = k := by simp [upTo]
theorem upTo_succ (k : Nat) : upTo (k + 1) = upTo k ++ [(k : Int)] := by simp [upTo, List.range_succ]
theorem mem_upTo {k : Nat} {x : Int} : x ∈ upTo k ↔ 0 ≤ x ∧ x < k := by
  rw [upTo, List.mem_map]
  constructor
  · rintro ⟨i, hi, rfl⟩; have := List.mem_range.1 hi; omega
  · rintro ⟨h0, h1⟩; exact ⟨x.toNat, List.mem_range.2 (by omega), by omega⟩
theorem upTo_dist (k : Nat) : distB (upTo k) (k : Int) = true := by
  refine decide_eq_true ⟨?_, fun x hx => mem_upTo.1 hx⟩
  rw [List.nodup_iff_pairwise_ne, upTo, List.pairwise_map]
  exact List.pairwise_lt_range.imp fun h e => by omega
theorem one_dist {i n : Int} (h0 : 0 ≤ i) (h1 : i < n) : distB [i] n = true := decide_eq_true ⟨by simp, fun x hx => by rw [List.mem_singleton.1 hx]; exact ⟨h0, h1⟩⟩
/-! ### Writhe and linking numbers -/
theorem sum_neg (l : List Int) : (l.map fun x => -x).sum = -l.sum := by
  induction l with
  | nil => rfl
  | cons x l ih => simp only [List.map_cons, List.sum_cons, ih]; omega
theorem writhe_map {f : Cr → Cr} {d : Dia} (e : Int) (h : ∀ x ∈ d.cross, (f x).s = e * x.s) : writhe (mapD f d) = e * writhe d := by
  simp only [writhe, writheTo, List.take_length, mapD, List.map_map]
  have : ∀ l : List Cr, (∀ x ∈ l, (f x).s = e * x.s) → (l.map (Cr.s ∘ f)).sum = e * (l.map Cr.s).sum := fun l => by
    induction l with
    | nil => intro _; simp
    | cons x l ih =>
      intro hl
      simp only [List.map_cons, List.sum_cons, ih (fun y hy => hl y (List.mem_cons_of_mem _ hy)), Int.mul_add]
      rw [Function.comp, hl x List.mem_cons_self]
  exact this d.cross h
theorem writhe_mir {d : Dia} (hs : SoundP d) : writhe (mirD d) = -writhe d := by
  have := writhe_map (f := mirCr) (d := d) (-1) fun x hx => by rw [mir_sgn (hs.sgn_mem hx)]; omega
  rw [mirD, this]; omega
theorem link_map {f : Cr → Cr} {d : Dia} {i j : Int} (of : List Int) (e : Int) (h : ∀ x ∈ d.cross, linkOne of i j (f x) = e * linkOne of i j x) : linkTo of (mapD f d).cross i j d.cross.length = e * linkTo of d.cross i j d.cross.length := by
  simp only [linkTo, mapD, List.take_length]
  rw [show d.cross.length = (d.cross.map f).length by simp, List.take_length, List.map_map]
  have : ∀ l : List Cr, (∀ x ∈ l, linkOne of i j (f x) = e * linkOne of i j x) → (l.map (linkOne of i j ∘ f)).sum = e * (l.map (linkOne of i j)).sum := fun l => by
    induction l with
    | nil => intro _; simp
    | cons x l ih =>
      intro hl
      simp only [List.map_cons, List.sum_cons, ih (fun y hy => hl y (List.mem_cons_of_mem _ hy)), Int.mul_add]
      rw [Function.comp, hl x List.mem_cons_self]
  exact this d.cross h
theorem linkSum_map {f : Cr → Cr} {d : Dia} {i j : Int} (e : Int) (hc : compOf (mapD f d) = compOf d) (h : ∀ x ∈ d.cross, linkOne (compOf d) i j (f x) = e * linkOne (compOf d) i j x) : linkSum (mapD f d) i j = e * linkSum d i j := by
  rw [linkSum, hc, mapD_len, link_map (compOf d) e h, linkSum]
theorem link_mir {d : Dia} (hs : SoundP d) (i j : Int) : linkSum (mirD d) i j = -linkSum d i j := by
  have := linkSum_map (f := mirCr) (i := i) (j := j) (-1) (mir_comp hs).1 fun x hx => by
    obtain ⟨c, hc, rfl⟩ := mem_at hx
    have h1 := hs.comp_lo hc
    have h2 := hs.comp_hi hc
    have hs := hs.sgn hc
    generalize compOf d = of at h1 h2 ⊢
    generalize crAt d c = x at h1 h2 hs ⊢
    obtain ⟨a0, a1, a2, a3, s⟩ := x
    simp only at h1 h2 hs
    rcases hs with h | h <;> subst h
    · show (if of.getD a3.toNat 0 = i ∧ of.getD a0.toNat 0 = j ∨ of.getD a3.toNat 0 = j ∧ of.getD a0.toNat 0 = i then (-1 : Int) else 0) = -1 * (if of.getD a0.toNat 0 = i ∧ of.getD a1.toNat 0 = j ∨ of.getD a0.toNat 0 = j ∧ of.getD a1.toNat 0 = i then (1 : Int) else 0)
      rw [h2]
      by_cases hk : of.getD a0.toNat 0 = i ∧ of.getD a1.toNat 0 = j ∨ of.getD a0.toNat 0 = j ∧ of.getD a1.toNat 0 = i
      · rw [if_pos hk, if_pos (by omega)]; rfl
      · rw [if_neg hk, if_neg (by omega)]; rfl
    · show (if of.getD a1.toNat 0 = i ∧ of.getD a2.toNat 0 = j ∨ of.getD a1.toNat 0 = j ∧ of.getD a2.toNat 0 = i then (1 : Int) else 0) = -1 * (if of.getD a0.toNat 0 = i ∧ of.getD a1.toNat 0 = j ∨ of.getD a0.toNat 0 = j ∧ of.getD a1.toNat 0 = i then (-1 : Int) else 0)
      rw [h1]
      by_cases hk : of.getD a0.toNat 0 = i ∧ of.getD a1.toNat 0 = j ∨ of.getD a0.toNat 0 = j ∧ of.getD a1.toNat 0 = i
      · rw [if_pos hk, if_pos (by omega)]; rfl
      · rw [if_neg hk, if_neg (by omega)]; rfl
  rw [mirD, this]; omega
theorem link_ref {d : Dia} (hs : SoundP d) (i j : Int) : linkSum (refD d) i j = -linkSum d i j := by
  have := linkSum_map (f := refCr) (i := i) (j := j) (-1) (ref_comp hs).1 fun x hx => by
    obtain ⟨c, hc, rfl⟩ := mem_at hx
    have h2 := hs.comp_hi hc
    show (if lowC (compOf d) (crAt d c) = i ∧ (compOf d).getD (crAt d c).a3.toNat 0 = j ∨ lowC (compOf d) (crAt d c) = j ∧ (compOf d).getD (crAt d c).a3.toNat 0 = i then -(crAt d c).s else 0) = -1 * (if lowC (compOf d) (crAt d c) = i ∧ upC (compOf d) (crAt d c) = j ∨ lowC (compOf d) (crAt d c) = j ∧ upC (compOf d) (crAt d c) = i then (crAt d c).s else 0)
    rw [h2]
    show (if lowC (compOf d) (crAt d c) = i ∧ upC (compOf d) (crAt d c) = j ∨ lowC (compOf d) (crAt d c) = j ∧ upC (compOf d) (crAt d c) = i then -(crAt d c).s else 0) = _
    split <;> omega
  rw [refD, this]; omega
/-- Components at the strands of a reversed crossing. -/
theorem rev_lowup {d : Dia} (hs : SoundP d) (comps : List Int) {c : Nat} (hc : c < d.cross.length) : lowC (compOf d) (revCr (compOf d) comps (crAt d c)) = lowC (compOf d) (crAt d c) ∧ upC (compOf d) (revCr (compOf d) comps (crAt d c)) = upC (compOf d) (crAt d c) := by
  have h1 := hs.comp_lo hc
  have h2 := hs.comp_hi hc
  rw [revCr_eq]
  cases flV d comps (crAt d c).a0 with
  | false => exact ⟨rfl, rfl⟩
  | true => exact ⟨h1, h2⟩
theorem link_rev {d : Dia} (hs : SoundP d) (i j : Int) (comps : List Int) (e : Int) (h : ∀ c, c < d.cross.length → (lowC (compOf d) (crAt d c) = i ∧ upC (compOf d) (crAt d c) = j ∨ lowC (compOf d) (crAt d c) = j ∧ upC (compOf d) (crAt d c) = i) → (revCr (compOf d) comps (crAt d c)).s = e * (crAt d c).s) : linkSum (revD d comps) i j = e * linkSum d i j := by
  refine linkSum_map e (rev_comp hs comps).1 fun x hx => ?_
  obtain ⟨c, hc, rfl⟩ := mem_at hx
  obtain ⟨h1, h2⟩ := rev_lowup hs comps hc
  rw [linkOne, linkOne, h1, h2]
  split
  · rename_i hk; exact h c hc hk
  · omega
theorem link_rev_one {d : Dia} (hs : SoundP d) {i j : Int} (hij : i ≠ j) : linkSum (revD d [i]) i j = -linkSum d i j := by
  have := link_rev hs i j [i] (-1) fun c _ hk => by
    show (if flV d [i] (crAt d c).a0 == flV d [i] (crAt d c).a1 then (crAt d c).s else -(crAt d c).s) = _
    have e0 : flV d [i] (crAt d c).a0 = decide (lowC (compOf d) (crAt d c) = i) := decide_eq_decide.2 List.mem_singleton
    have e1 : flV d [i] (crAt d c).a1 = decide (upC (compOf d) (crAt d c) = i) := decide_eq_decide.2 List.mem_singleton
    rw [e0, e1]
    rcases hk with ⟨h1, h2⟩ | ⟨h1, h2⟩
    · rw [h1, h2, decide_eq_true rfl, decide_eq_false (fun e => hij e.symm)]; show -(crAt d c).s = _; omega
    · rw [h1, h2, decide_eq_true rfl, decide_eq_false (fun e => hij e.symm)]; show -(crAt d c).s = _; omega
  rw [this]; omega
theorem rev_all_sgn {d : Dia} (hs : SoundP d) {n : Nat} (hn : compCount d ≤ n) {c : Nat} (hc : c < d.cross.length) : (revCr (compOf d) (upTo n) (crAt d c)).s = (crAt d c).s := by
  have key : ∀ a : Int, 0 ≤ a → a < 2 * d.cross.length → flV d (upTo n) a = true := fun a h0 h1 => by
    have hl : a.toNat < (compOf d).length := by rw [compOf_len]; omega
    have hm : (compOf d).getD a.toNat 0 ∈ compOf d := List.mem_of_getElem? (getD_get hl 0)
    have g0 := comp_nonneg hm
    have g1 := compTo_lt _ _ _ _ hm
    rw [← compCount] at g1
    exact decide_eq_true (mem_upTo.2 ⟨g0, by omega⟩)
  have b0 := hs.arc hc (p := 0) (by omega)
  have b1 := hs.arc hc (p := 1) (by omega)
  show (if flV d (upTo n) (crAt d c).a0 == flV d (upTo n) (crAt d c).a1 then (crAt d c).s else -(crAt d c).s) = _
  rw [key (crAt d c).a0 b0.1 b0.2, key (crAt d c).a1 b1.1 b1.2]; rfl
theorem link_rev_all {d : Dia} (hs : SoundP d) (i j : Int) {n : Nat} (hn : compCount d ≤ n) : linkSum (revD d (upTo n)) i j = linkSum d i j := by
  have := link_rev hs i j (upTo n) 1 fun c hc _ => by rw [rev_all_sgn hs hn hc]; omega
  rw [this]; omega
theorem writhe_rev_all {d : Dia} (hs : SoundP d) {n : Nat} (hn : compCount d ≤ n) : writhe (revD d (upTo n)) = writhe d := by
  have := writhe_map (f := revCr (compOf d) (upTo n)) (d := d) 1 fun x hx => by
    obtain ⟨c, hc, rfl⟩ := mem_at hx
    rw [rev_all_sgn hs hn hc]; omega
  rw [revD, this]; omega
theorem linkBad_of {d d' : Dia} {i j : Int} (hc : compCount d' = compCount d) (hl : d'.loops = d.loops) (h : ¬ LinkBad d i j) : ¬ LinkBad d' i j := by
  unfold LinkBad at *; rw [hc, hl]; exact h
theorem linkR_of {d : Dia} {i j : Int} (h : ¬ LinkBad d i j) : linkR d i j = (linkSum d i j).tdiv 2 := if_neg h
theorem linkE_of {d : Dia} {i j : Int} (h : ¬ LinkBad d i j) : linkE d i j = 0 := if_neg h
theorem linkR_neg {d d' : Dia} {i j : Int} (h : ¬ LinkBad d i j) (h' : ¬ LinkBad d' i j) (e : linkSum d' i j = -linkSum d i j) : linkR d' i j = -linkR d i j := by
  rw [linkR_of h, linkR_of h', e, Int.neg_tdiv]
theorem linkR_same {d d' : Dia} {i j : Int} (h : ¬ LinkBad d i j) (h' : ¬ LinkBad d' i j) (e : linkSum d' i j = linkSum d i j) : linkR d' i j = linkR d i j := by
  rw [linkR_of h, linkR_of h', e]
theorem link_two {d : Dia} (hs : SoundP d) (hp : PlanarP d) {i j : Int} (h : ¬ LinkBad d i j) : 2 * linkR d i j = linkSum d i j := by
  obtain ⟨k, hk⟩ := link_even hs hp (i := i) (j := j) fun e => h (.inr (.inr (.inr (.inr e))))
  rw [linkR_of h, hk, Int.mul_tdiv_cancel_left _ (by omega)]
theorem linkR_bound {d : Dia} (hs : SoundP d) (i j : Int) : -200 ≤ linkR d i j ∧ linkR d i j ≤ 200 := by
  have h200 := hs.1
  have hb := linkTo_bound (of := compOf d) (i := i) (j := j) (fun x hx => hs.sgn_mem hx) d.cross.length
  unfold linkR
  split
  · omega
  · exact tdiv2_bound (by unfold linkSum; omega) (by unfold linkSum; omega) (by omega)
theorem writhe_bound {d : Dia} (hs : SoundP d) : -200 ≤ writhe d ∧ writhe d ≤ 200 := by
  have h200 := hs.1
  have := writheTo_bound (d := d) (fun x hx => hs.sgn_mem hx) d.cross.length
  unfold writhe; omega
end Go.V
