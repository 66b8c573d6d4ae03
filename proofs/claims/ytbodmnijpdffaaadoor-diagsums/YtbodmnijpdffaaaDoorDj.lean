/- Diagrams as data, part j: the chapter's examples. -/
import Derived.Test.YtbodmnijpdffaaaDoorDi
import Derived.Test.YtbodmnijpdffaaaDoorDh
import Derived.Test.YtbodmnijpdffaaaDoorVf
namespace Go.V
open Go
def hopfD : Dia := ⟨[⟨0, 3, 1, 2, 1⟩, ⟨3, 0, 2, 1, 1⟩], 0⟩
def flatD : Dia := ⟨[⟨0, 3, 1, 2, 1⟩, ⟨3, 1, 2, 0, -1⟩], 0⟩
def mirH : Dia := ⟨[⟨2, 0, 3, 1, -1⟩, ⟨1, 3, 0, 2, -1⟩], 0⟩
theorem hopf_sound : SoundP hopfD := by unfold SoundP; decide +kernel
theorem flat_sound : SoundP flatD := by unfold SoundP; decide +kernel
theorem mirH_sound : SoundP mirH := by unfold SoundP; decide +kernel
theorem mir_hopf : mapD mirCr hopfD = mirH := by decide +kernel
theorem planar_of_conn {d : Dia} (h : ∀ c c', c < d.cross.length → c' < d.cross.length → Conn d c c') (hn : (regsOf d).length = d.cross.length + 2) : PlanarP d := fun c hc => by
  have h1 : pieceOf d c = List.range d.cross.length := by
    rw [pieceOf, List.filter_eq_self]
    intro x hx
    exact connB_iff.2 (h c x hc (List.mem_range.1 hx))
  have h2 : cntReg d c = (regsOf d).length := by
    rw [cntReg, List.filter_eq_self.2]
    intro r hr
    obtain ⟨q, hq, e⟩ := regsTo_mem d _ r hr
    have := (regionOf_head (d := d) (q := q) (by omega)).1
    rw [e, this]
    exact connB_iff.2 (h c _ hc (by omega))
  rw [h1, h2, List.length_range, hn]
theorem conn_two {d : Dia} (hs : SoundP d) (hl : d.cross.length = 2) {p : Nat} (hp : p < 4) (h : otherQ d (4 * 0 + p) / 4 = 1) : ∀ c c', c < d.cross.length → c' < d.cross.length → Conn d c c' := by
  have h01 : Conn d 0 1 := h ▸ Conn.step .refl hp
  have h10 : Conn d 1 0 := h01.symm hs (by omega)
  intro c c' hc hc'
  have h1 : c = 0 ∨ c = 1 := by omega
  have h2 : c' = 0 ∨ c' = 1 := by omega
  rcases h1 with rfl | rfl <;> rcases h2 with rfl | rfl
  · exact .refl
  · exact h01
  · exact h10
  · exact .refl
theorem hopf_ok : checkI hopfD = 0 := checkI_ok.2 ⟨hopf_sound, planar_of_conn (conn_two hopf_sound rfl (p := 0) (by decide) (by decide +kernel)) (by decide +kernel)⟩
theorem mirH_ok : checkI mirH = 0 := checkI_ok.2 ⟨mirH_sound, planar_of_conn (conn_two mirH_sound rfl (p := 0) (by decide) (by decide +kernel)) (by decide +kernel)⟩
theorem flat_bad : checkI flatD = 221 := checkI_unplanar flat_sound fun h => by
  have h1 := h 0 (by decide)
  have h2 : cntReg flatD 0 ≤ (regsOf flatD).length := List.length_filter_le _ _
  have h3 : (regsOf flatD).length = 2 := by decide +kernel
  have h4 : 0 < (pieceOf flatD 0).length := List.length_pos_of_mem (piece_self (by decide))
  omega
theorem hopf_comp : compOf hopfD = [0, 0, 1, 1] := by decide +kernel
theorem hopf_count : compCount hopfD = 2 := by decide +kernel
theorem hopf_writhe : writhe hopfD = 2 := by decide +kernel
theorem hopf_linkR : linkR hopfD 0 1 = 1 := by decide +kernel
theorem hopf_linkE : linkE hopfD 0 1 = 0 := by decide +kernel
theorem hopf_regs : (regsOf hopfD).length = 4 := by decide +kernel
theorem mirH_small : ∀ x ∈ mirH.cross, SmallCr x := by unfold SmallCr; decide +kernel
theorem num_small {i : Nat} (h : i < 10) : numS (i : Int) = ⟨#[UInt8.ofNat (48 + i)]⟩ := by
  rw [numS, Int.toNat_natCast, Lib.decDigits, dif_pos h]
theorem mirH_text : textOf mirH = ⟨#[45, 32, 50, 32, 48, 32, 51, 32, 49, 59, 32, 45, 32, 49, 32, 51, 32, 48, 32, 50, 32, 124, 32, 48]⟩ := by
  have n0 := num_small (i := 0) (by decide)
  have n1 := num_small (i := 1) (by decide)
  have n2 := num_small (i := 2) (by decide)
  have n3 := num_small (i := 3) (by decide)
  simp only [textOf, mirH, List.length_cons, List.length_nil, List.map_cons, List.map_nil, crS, crTo, Cr.arc, sgnS]
  simp only [show ((0 : Nat) : Int) = 0 from rfl, show ((1 : Nat) : Int) = 1 from rfl, show ((2 : Nat) : Int) = 2 from rfl, show ((3 : Nat) : Int) = 3 from rfl] at n0 n1 n2 n3
  rw [n0, n1, n2, n3]
  decide +kernel
end Go.V
/- Plain laws, part k: how many components there are; each place lies in exactly one region. -/
namespace Go.V
open Go
/-! ### The greatest number is the count -/
theorem markC_keep {nx : Nat → Nat} {k : Int} {y : Int} (hy : 0 ≤ y) : ∀ (f : Nat) (out : List Int) (b i : Nat), out[i]? = some y → (markC nx k f out b)[i]? = some y
  | 0, _, _, _, h => h
  | f + 1, out, b, i, h => by
    rw [markC]
    split
    · rename_i hb
      refine markC_keep hy f _ _ i ?_
      rw [List.getElem?_set]
      split
      · rename_i e; subst e
        rw [List.getD_eq_getElem?_getD, h] at hb
        simp at hb; omega
      · exact h
    · exact h
theorem compTo_lt (nx : Nat → Nat) (N a : Nat) : ∀ x ∈ (compTo nx N a).1, x < (compTo nx N a).2 := by
  induction a with
  | zero => intro x hx; simp [compTo] at hx; simp [compTo]; omega
  | succ a ih =>
    rw [compTo_succ, compStep]
    split
    · exact ih
    · intro x hx
      have := markC_le (m := ((compTo nx N a).2 : Int)) (Int.le_refl _) N _ _ (fun x hx => by have := ih x hx; omega) x hx
      show x < (((compTo nx N a).2 + 1 : Nat) : Int)
      omega
theorem compTo_onto (nx : Nat → Nat) (N a : Nat) (ha : a ≤ N) : ∀ k : Nat, k < (compTo nx N a).2 → ∃ i : Nat, (compTo nx N a).1[i]? = some (k : Int) := by
  induction a with
  | zero => intro k hk; simp [compTo] at hk
  | succ a ih =>
    rw [compTo_succ, compStep]
    split
    · exact ih (by omega)
    · rename_i hn
      intro k hk
      have hk : k < (compTo nx N a).2 + 1 := hk
      rcases Nat.lt_or_ge k (compTo nx N a).2 with h | h
      · obtain ⟨i, hi⟩ := ih (by omega) k h
        exact ⟨i, markC_keep (by omega) N _ _ i hi⟩
      · obtain rfl : k = (compTo nx N a).2 := by omega
        refine ⟨a, ?_⟩
        obtain ⟨M, rfl⟩ : ∃ M, N = M + 1 := ⟨N - 1, by omega⟩
        show (markC nx _ (M + 1) _ a)[a]? = _
        rw [markC_go (by omega)]
        refine markC_keep (by omega) M _ _ a ?_
        rw [List.getElem?_set, if_pos rfl, if_pos (by rw [compTo_len]; omega)]
theorem maxOf_go (xs : List Int) : ∀ n : Int, (∀ x ∈ xs, x + 1 ≤ xs.foldl (fun n x => max n (x + 1)) n) ∧ n ≤ xs.foldl (fun n x => max n (x + 1)) n := by
  induction xs with
  | nil => intro n; exact ⟨fun x hx => (by cases hx), Int.le_refl _⟩
  | cons y r ih =>
    intro n
    obtain ⟨h1, h2⟩ := ih (max n (y + 1))
    rw [List.foldl_cons]
    refine ⟨fun x hx => ?_, by omega⟩
    rcases List.mem_cons.1 hx with rfl | hx
    · omega
    · exact h1 x hx
theorem maxOf_count (d : Dia) : maxOf (compOf d) = compCount d := by
  have h1 := (maxTo_bound (xs := compOf d) (m := (compCount d : Int)) (by omega) (fun x hx => by have := compTo_lt _ _ _ x hx; rw [← compCount] at this; omega) (compOf d).length).2
  rw [maxTo, List.take_length] at h1
  have h2 := maxOf_go (compOf d) 0
  rw [← maxOf] at h2
  rcases Nat.eq_zero_or_pos (compCount d) with h | h
  · have := h2.2; omega
  · obtain ⟨i, hi⟩ := compTo_onto (nextN d) (2 * d.cross.length) (2 * d.cross.length) (Nat.le_refl _) (compCount d - 1) (by rw [← compCount]; omega)
    have := h2.1 _ (List.mem_of_getElem? hi)
    omega
/-! ### The regions part the places -/
theorem region_nodup {d : Dia} (h : SoundP d) {q : Nat} (hq : q < 4 * d.cross.length) : (regionOf d q).Nodup := by
  obtain ⟨⟨h0, h1, h2⟩, h3⟩ := h.orb hq
  rw [h3, List.nodup_iff_pairwise_ne, List.pairwise_map]
  refine List.Pairwise.imp_of_mem ?_ List.pairwise_lt_range
  intro i j hi hj hij e
  have hj := List.mem_range.1 hj
  have back : ∀ (a b : Nat), a ≤ b → iter (stepQ d) a q = iter (stepQ d) b q → iter (stepQ d) (b - a) q = q := by
    intro a
    induction a with
    | zero => intro b _ e; simpa [iter] using e.symm
    | succ a ih =>
      intro b hab e
      obtain ⟨b, rfl⟩ : ∃ c, b = c + 1 := ⟨b - 1, by omega⟩
      rw [iter_succ, iter_succ] at e
      have := h.step_inj (iter_lt (fun x hx => h.step_lt hx) a q hq) (iter_lt (fun x hx => h.step_lt hx) b q hq) e
      have := ih b (by omega) this
      rwa [show b + 1 - (a + 1) = b - a by omega]
  exact h2 (j - i) (by omega) (by omega) (back i j (by omega) e)
theorem mem_region {d : Dia} (h : SoundP d) {q y : Nat} (hq : q < 4 * d.cross.length) : y ∈ regionOf d q ↔ ∃ k, y = iter (stepQ d) k q := by
  obtain ⟨⟨h0, h1, h2⟩, h3⟩ := h.orb hq
  constructor
  · intro hy; rw [h3] at hy; obtain ⟨k, _, e⟩ := List.mem_map.1 hy; exact ⟨k, e.symm⟩
  · rintro ⟨k, rfl⟩
    induction k with
    | zero => rw [h3]; exact List.mem_map.2 ⟨0, List.mem_range.2 h0, rfl⟩
    | succ k ih =>
      rw [h3] at ih ⊢
      obtain ⟨m, hm, e⟩ := List.mem_map.1 ih
      have hm := List.mem_range.1 hm
      rw [iter_succ, ← e, ← iter_succ (stepQ d) m q]
      rcases Nat.lt_or_ge (m + 1) (regionOf d q).length with h4 | h4
      · exact List.mem_map.2 ⟨m + 1, List.mem_range.2 h4, rfl⟩
      · have e2 : m + 1 = (regionOf d q).length := by omega
        exact List.mem_map.2 ⟨0, List.mem_range.2 h0, by rw [e2, h1]; rfl⟩
structure RegOk (d : Dia) (Q : Nat) : Prop where
  nodup : (regsTo d Q).flatten.Nodup
  lt : ∀ x ∈ (regsTo d Q).flatten, x < 4 * d.cross.length
  back : ∀ x, x < 4 * d.cross.length → stepQ d x ∈ (regsTo d Q).flatten → x ∈ (regsTo d Q).flatten
  all : ∀ q, q < Q → q ∈ (regsTo d Q).flatten
theorem mem_flat {d : Dia} {Q x : Nat} : x ∈ (regsTo d Q).flatten ↔ (regsTo d Q).any (fun r => r.contains x) = true := by
  rw [List.any_eq_true, List.mem_flatten]
  exact ⟨fun ⟨r, h1, h2⟩ => ⟨r, h1, List.contains_iff_mem.2 h2⟩, fun ⟨r, h1, h2⟩ => ⟨r, h1, List.contains_iff_mem.1 h2⟩⟩
theorem regOk {d : Dia} (h : SoundP d) : ∀ Q, Q ≤ 4 * d.cross.length → RegOk d Q := by
  intro Q
  induction Q with
  | zero => intro _; exact ⟨by simp [regsTo], by simp [regsTo], by simp [regsTo], fun q hq => by omega⟩
  | succ Q ih =>
    intro hQ
    have r := ih (by omega)
    by_cases hin : (regsTo d Q).any (fun r => r.contains Q) = true
    · have e : regsTo d (Q + 1) = regsTo d Q := by rw [regsTo_succ, regStep, if_pos hin]
      refine ⟨e ▸ r.nodup, e ▸ r.lt, e ▸ r.back, fun q hq => ?_⟩
      rw [e]
      rcases Nat.lt_or_ge q Q with h1 | h1
      · exact r.all q h1
      · obtain rfl : q = Q := by omega
        exact mem_flat.2 hin
    · have e : regsTo d (Q + 1) = regsTo d Q ++ [regionOf d Q] := by rw [regsTo_succ, regStep, if_neg hin]
      have hnot : Q ∉ (regsTo d Q).flatten := fun hm => hin (mem_flat.1 hm)
      have hdis : ∀ k, iter (stepQ d) k Q ∉ (regsTo d Q).flatten := by
        intro k
        induction k with
        | zero => exact hnot
        | succ k ih2 => intro hm; rw [iter_succ] at hm; exact ih2 (r.back _ (iter_lt (fun x hx => h.step_lt hx) k Q (by omega)) hm)
      have hfl : (regsTo d (Q + 1)).flatten = (regsTo d Q).flatten ++ regionOf d Q := by rw [e]; simp
      refine ⟨?_, fun x hx => ?_, fun x hx hm => ?_, fun q hq => ?_⟩
      · rw [hfl, List.nodup_append]
        refine ⟨r.nodup, region_nodup h (by omega), fun a ha b hb e2 => ?_⟩
        subst e2
        obtain ⟨k, rfl⟩ := (mem_region h (by omega)).1 hb
        exact hdis k ha
      · rw [hfl] at hx
        rcases List.mem_append.1 hx with hx | hx
        · exact r.lt x hx
        · obtain ⟨k, rfl⟩ := (mem_region h (by omega)).1 hx
          exact iter_lt (fun x hx => h.step_lt hx) k Q (by omega)
      · rw [hfl] at hm ⊢
        rcases List.mem_append.1 hm with hm | hm
        · exact List.mem_append.2 (.inl (r.back x hx hm))
        · refine List.mem_append.2 (.inr ?_)
          obtain ⟨k, hk⟩ := (mem_region h (by omega)).1 hm
          have ho := (h.orb (q := Q) (by omega)).1
          -- x is the place ahead of its step
          cases k with
          | zero =>
            have : stepQ d x = stepQ d (iter (stepQ d) ((regionOf d Q).length - 1) Q) := by
              rw [← iter_succ (stepQ d) _ Q, show (regionOf d Q).length - 1 + 1 = (regionOf d Q).length by have := ho.1; omega, ho.2.1]; exact hk
            have hx2 := h.step_inj hx (iter_lt (fun x hx => h.step_lt hx) _ Q (by omega)) this
            exact (mem_region h (by omega)).2 ⟨_, hx2⟩
          | succ k =>
            rw [iter_succ] at hk
            exact (mem_region h (by omega)).2 ⟨k, h.step_inj hx (iter_lt (fun x hx => h.step_lt hx) k Q (by omega)) hk⟩
      · rw [hfl]
        rcases Nat.lt_or_ge q Q with h1 | h1
        · exact List.mem_append.2 (.inl (r.all q h1))
        · obtain rfl : q = Q := by omega
          exact List.mem_append.2 (.inr ((mem_region h (by omega)).2 ⟨0, rfl⟩))
theorem regs_flat_len {d : Dia} (h : SoundP d) : (regsOf d).flatten.length = 4 * d.cross.length := by
  have r := regOk h (4 * d.cross.length) (Nat.le_refl _)
  have h1 := List.Nodup.length_le_of_subset r.nodup (l₂ := List.range (4 * d.cross.length)) (fun x hx => List.mem_range.2 (r.lt x hx))
  have h2 := List.Nodup.length_le_of_subset (List.nodup_range (n := 4 * d.cross.length)) (l₂ := (regsTo d (4 * d.cross.length)).flatten) (fun x hx => r.all x (List.mem_range.1 hx))
  rw [List.length_range] at h1 h2
  show (regsTo d (4 * d.cross.length)).flatten.length = _
  omega
def lenTo (rs : List (Value × List Nat)) (i : Nat) : Nat := ((rs.take i).map fun a => a.2.length).sum
theorem lenTo_succ {rs : List (Value × List Nat)} {i : Nat} {a : Value × List Nat} (h : rs[i]? = some a) : lenTo rs (i + 1) = lenTo rs i + a.2.length := by
  simp only [lenTo, List.take_add_one, h, Option.toList_some, List.map_append, List.sum_append]; simp
theorem lenTo_all {d : Dia} (h : SoundP d) {rs : List (Value × List Nat)} (hr : rs.map Prod.snd = regsOf d) : lenTo rs rs.length = 4 * d.cross.length := by
  rw [← regs_flat_len h, lenTo, List.take_length, List.length_flatten, ← hr, List.map_map]; rfl
theorem lenTo_le {d : Dia} {rs : List (Value × List Nat)} (hr : ∀ a ∈ rs, a.2.length ≤ 4 * d.cross.length) : ∀ i, lenTo rs i ≤ 4 * d.cross.length * i := by
  intro i
  induction i with
  | zero => simp [lenTo]
  | succ i ih =>
    rcases Nat.lt_or_ge i rs.length with hi | hi
    · obtain ⟨a, ha⟩ := get_of_lt hi
      have := hr a (List.mem_of_getElem? ha)
      rw [lenTo_succ ha, Nat.mul_succ]; omega
    · have e : lenTo rs (i + 1) = lenTo rs i := by simp only [lenTo]; rw [List.take_of_length_le (by omega), List.take_of_length_le hi]
      rw [e, Nat.mul_succ]; omega
end Go.V
/- Lists of numbers as arguments. -/
namespace Go.V
open Go
abbrev lisV (base : Option Addr) (cap : Nat) (xs : List Int) : Value := .slice base xs.length cap
structure IntsAt (w : World) (base : Option Addr) (A : Addr) (cap : Nat) (xs : List Int) : Prop where
  base : 0 < xs.length → base = some A
  cell : Cells w A (ints xs)
  le : xs.length ≤ cap
  len : cap ≤ 9223372036854775807
theorem IntsAt.old {w w' : World} {base : Option Addr} {A : Addr} {cap : Nat} {xs : List Int} (h : IntsAt w base A cap xs) (ho : Old Nil w w') : IntsAt w' base A cap xs := ⟨h.base, fun j v hj => ho.cell (h.cell j v hj) (fun x => x), h.le, h.len⟩
theorem IntsAt.sym {w w' : World} {L : List HL} {base : Option Addr} {A : Addr} {cap : Nat} {xs : List Int} (h : IntsAt w base A cap xs) (hs : Sym w Nil L w') : IntsAt w' base A cap xs := h.old hs.old
theorem IntsAt.shape {w : World} {base : Option Addr} {A : Addr} {cap : Nat} {xs : List Int} (h : IntsAt w base A cap xs) : Shape (lisV base cap xs) xs.length := shape_slice h.base
theorem IntsAt.cells {w : World} {base : Option Addr} {A : Addr} {cap : Nat} {xs : List Int} (h : IntsAt w base A cap xs) (n : Nat) : Cells w (vaddr (.slice base n cap)) (ints xs) := by
  rcases Nat.eq_zero_or_pos xs.length with h0 | h0
  · rw [List.length_eq_zero_iff.1 h0]; exact fun j v hj => by simp [ints] at hj
  · rw [h.base h0]; exact h.cell
theorem IntsAt.pre {w : World} {base : Option Addr} {A : Addr} {cap : Nat} {xs : List Int} (h : IntsAt w base A cap xs) {i : Nat} (hi : i ≤ xs.length) : Shape (.slice base i cap) (xs.take i).length ∧ Cells w (vaddr (.slice base i cap)) (ints (xs.take i)) := by
  have hl : (xs.take i).length = i := by simp; omega
  rw [hl]
  refine ⟨shape_slice (A := A) fun h0 => h.base (by omega), fun j v hj => h.cells i j v ?_⟩
  simp only [ints, List.getElem?_map, List.getElem?_take] at hj ⊢
  split at hj
  · exact hj
  · simp at hj
def distB (xs : List Int) (n : Int) : Bool := decide (xs.Nodup ∧ ∀ x ∈ xs, 0 ≤ x ∧ x < n)
theorem nodup_take_succ {xs : List Int} {i : Nat} {y : Int} (hy : xs[i]? = some y) (h : (xs.take i).Nodup) (hn : y ∉ xs.take i) : (xs.take (i + 1)).Nodup := by
  rw [List.take_add_one, hy]
  simp only [Option.toList_some]
  rw [List.nodup_append]
  refine ⟨h, by simp, fun a ha b hb e => ?_⟩
  rw [List.mem_singleton.1 hb] at e
  exact hn (e ▸ ha)
theorem not_nodup {xs : List Int} {i : Nat} {y : Int} (hy : xs[i]? = some y) (hm : y ∈ xs.take i) : ¬ xs.Nodup := fun h => by
  obtain ⟨j, hj⟩ := List.getElem?_of_mem hm
  have hji : j < i := by have := (List.getElem?_eq_some_iff.1 hj).1; simp at this; omega
  rw [List.getElem?_take_of_lt hji] at hj
  obtain ⟨h1, e1⟩ := List.getElem?_eq_some_iff.1 hj
  obtain ⟨h2, e2⟩ := List.getElem?_eq_some_iff.1 hy
  exact (List.pairwise_iff_getElem.1 (List.nodup_iff_pairwise_ne.1 h)) j i h1 h2 hji (e1.trans e2.symm)
/-! ### Reversal -/
def revB (lo hi : Bool) (x : Cr) : Cr := ⟨if lo then x.a2 else x.a0, if lo then x.a3 else x.a1, if lo then x.a0 else x.a2, if lo then x.a1 else x.a3, if lo == hi then x.s else -x.s⟩
def revCr (of comps : List Int) (x : Cr) : Cr := revB (decide (of.getD x.a0.toNat 0 ∈ comps)) (decide (of.getD x.a1.toNat 0 ∈ comps)) x
theorem rev_tt {lo hi : Bool} {x : Cr} (h : lo = true) (k : (!(lo == hi)) = true) : [iv x.a2, iv x.a3, iv x.a0, iv x.a1, iv (-x.s)] = encCr (revB lo hi x) := by subst h; cases hi <;> simp_all [revB, encCr]
theorem rev_tf {lo hi : Bool} {x : Cr} (h : lo = true) (k : (!(lo == hi)) = false) : [iv x.a2, iv x.a3, iv x.a0, iv x.a1, iv x.s] = encCr (revB lo hi x) := by subst h; cases hi <;> simp_all [revB, encCr]
theorem rev_ft {lo hi : Bool} {x : Cr} (h : lo = false) (k : (!(lo == hi)) = true) : [iv x.a0, iv x.a1, iv x.a2, iv x.a3, iv (-x.s)] = encCr (revB lo hi x) := by subst h; cases hi <;> simp_all [revB, encCr]
theorem rev_ff {lo hi : Bool} {x : Cr} (h : lo = false) (k : (!(lo == hi)) = false) : [iv x.a0, iv x.a1, iv x.a2, iv x.a3, iv x.s] = encCr (revB lo hi x) := by subst h; cases hi <;> simp_all [revB, encCr]
end Go.V
