/- Diagrams as data, part h: changed diagrams. -/
import Derived.Test.YtbodmnijpdffaaaDoorDa
import Derived.Test.YtbodmnijpdffaaaDoorVf
import Derived.Lib.Join
import Derived.Lib.ItoaNum
namespace Go.V
open Go
theorem encCr_len (x : Cr) : (encCr x).length = 5 := rfl
theorem encCr_one (l : List Cr) : (l.flatMap encCr).all Value.oneCell' = true := by
  rw [List.all_eq_true]
  intro u hu
  obtain ⟨x, _, hx⟩ := List.mem_flatMap.1 hu
  simp [encCr] at hx
  rcases hx with rfl | rfl | rfl | rfl | rfl <;> rfl
theorem DiaAt.cells {w : World} {base : Option Addr} {A : Addr} {d : Dia} (h : DiaAt w base A d) : Cells w A (d.cross.flatMap encCr) := fun j v hj => by
  rw [flat_get_inv encCr_len (by decide)] at hj
  cases hx : d.cross[j / 5]? with
  | none => rw [hx] at hj; cases hj
  | some x =>
    rw [hx] at hj
    have := h.cell (j / 5) x hx (j % 5) v hj
    rw [add_add] at this
    rwa [show j / 5 * 5 + j % 5 = j by omega] at this
theorem DiaAt.cells' {w : World} {base : Option Addr} {A B : Addr} {d : Dia} (h : DiaAt w base A d) (hb : base = some B) : Cells w B (d.cross.flatMap encCr) := by
  rcases Nat.eq_zero_or_pos d.cross.length with h0 | h0
  · have : d.cross = [] := List.length_eq_zero_iff.1 h0
    rw [this]; exact Cells.nil _ _
  · have := h.base h0
    rw [hb] at this
    cases this
    exact h.cells
theorem DiaAt.of_cells {w : World} {base : Option Addr} {A : Addr} {d : Dia} (hb : 0 < d.cross.length → base = some A) (hc : Cells w A (d.cross.flatMap encCr)) (hl : d.cross.length ≤ 9223372036854775807) (hw : ∀ x ∈ d.cross, x.Wf) (ho : In64 d.loops) : DiaAt w base A d :=
  ⟨hb, fun i x hi j v hj => by
    have := hc (i * 5 + j) v (flat_get encCr_len hi hj)
    rwa [← add_add] at this, hl, hw, ho⟩
def mapTo (f : Cr → Cr) (l : List Cr) (c : Nat) : List Cr := (l.take c).map f ++ l.drop c
theorem mapTo_len (f : Cr → Cr) (l : List Cr) (c : Nat) : (mapTo f l c).length = l.length := by simp [mapTo]; omega
theorem mapTo_get {f : Cr → Cr} {l : List Cr} {c : Nat} {x : Cr} (hx : l[c]? = some x) : (mapTo f l c)[c]? = some x := by
  have hc := (List.getElem?_eq_some_iff.1 hx).1
  rw [mapTo, List.getElem?_append_right (by simp; omega)]
  simp [Nat.min_eq_left (Nat.le_of_lt hc), hx]
theorem mapTo_set {f : Cr → Cr} {l : List Cr} {c : Nat} {x : Cr} (hx : l[c]? = some x) : (mapTo f l c).set c (f x) = mapTo f l (c + 1) := by
  obtain ⟨hc, e⟩ := List.getElem?_eq_some_iff.1 hx
  rw [mapTo, mapTo, List.set_append_right _ _ (by simp; omega), List.take_add_one, hx, List.map_append, List.append_assoc]
  congr 1
  rw [List.drop_eq_getElem_cons hc, e]
  simp [Nat.min_eq_left (Nat.le_of_lt hc)]
theorem mapTo_zero (f : Cr → Cr) (l : List Cr) : mapTo f l 0 = l := by simp [mapTo]
theorem mapTo_all (f : Cr → Cr) (l : List Cr) : mapTo f l l.length = l.map f := by simp [mapTo]
def mapD (f : Cr → Cr) (d : Dia) : Dia := ⟨d.cross.map f, d.loops⟩
theorem mapD_len (f : Cr → Cr) (d : Dia) : (mapD f d).cross.length = d.cross.length := by simp [mapD]
/-- The crossings of a diagram that the call owns. -/
def ownD (g : Option Addr × Nat) (d : Dia) : HL := HL.own 69 5 (.slice g.1 d.cross.length g.2) d.cross.length (d.cross.flatMap encCr)
abbrev OKB (g : Option Addr × Nat) (n : Nat) : Prop := 0 < n → g.1 = some (vaddr (.slice g.1 n g.2))
theorem wf_of_sound {d : Dia} (h : SoundP d) : (∀ x ∈ d.cross, x.Wf) ∧ In64 d.loops ∧ d.cross.length ≤ 9223372036854775807 := by
  have h0 := h.1
  refine ⟨fun x hx => ?_, ⟨by have := h.2.1; omega, by have := h.2.2.1; omega⟩, by omega⟩
  have hs := (h.2.2.2.1 x hx).1
  have hp := (h.2.2.2.1 x hx).2
  have p0 : 0 ≤ x.a0 ∧ x.a0 < 2 * d.cross.length := hp 0 (by omega)
  have p1 : 0 ≤ x.a1 ∧ x.a1 < 2 * d.cross.length := hp 1 (by omega)
  have p2 : 0 ≤ x.a2 ∧ x.a2 < 2 * d.cross.length := hp 2 (by omega)
  have p3 : 0 ≤ x.a3 ∧ x.a3 < 2 * d.cross.length := hp 3 (by omega)
  exact ⟨⟨by omega, by omega⟩, ⟨by omega, by omega⟩, ⟨by omega, by omega⟩, ⟨by omega, by omega⟩, ⟨by omega, by omega⟩⟩
theorem DiaAt.of_ownD {w : World} {g : Option Addr × Nat} {d : Dia} (hs : SoundP d) (ho : (ownD g d).holds w) : DiaAt w g.1 (vaddr (.slice g.1 d.cross.length g.2)) d := by
  have hw := wf_of_sound hs
  have ho' : w.ownsRow 0 69 5 (.slice g.1 d.cross.length g.2) d.cross.length (d.cross.flatMap encCr) := ho
  obtain ⟨b, c, e, hb⟩ := own_shape ho'
  cases e
  exact DiaAt.of_cells hb (own_all ho') hw.2.2 hw.1 hw.2.1
/-- The mirror image of a crossing; its reflection. -/
def mirCr (x : Cr) : Cr := if x.s = 1 then ⟨x.a3, x.a0, x.a1, x.a2, -1⟩ else ⟨x.a1, x.a2, x.a3, x.a0, 1⟩
def refCr (x : Cr) : Cr := ⟨x.a0, x.a3, x.a2, x.a1, -x.s⟩
theorem ownD_take (f : Cr → Cr) (d : Dia) (vb : Option Addr) (vc : Nat) : ownD (vb, vc) (mapD f d) = HL.own 69 5 (.slice vb d.cross.length vc) d.cross.length (((d.cross.take d.cross.length).map f).flatMap encCr) := by
  rw [ownD, mapD_len, List.take_length]; rfl
theorem arcs_of {x : Cr} {j : Nat} {u : Value} (h : [iv x.a0, iv x.a1, iv x.a2, iv x.a3][j]? = some u) : (encCr x)[j]? = some u := by
  match j, h with
  | 0, h => exact h
  | 1, h => exact h
  | 2, h => exact h
  | 3, h => exact h
  | (j + 4), h => simp at h
theorem cr_snoc {l : List Cr} {y : Cr} {vs : List Value} (h : vs = encCr y) : l.flatMap encCr ++ vs = (l ++ [y]).flatMap encCr := by
  subst h; rw [List.flatMap_append]; simp
theorem mir_neg {x : Cr} (h : x.s = -1) : [iv x.a1, iv x.a2, iv x.a3, iv x.a0, iv (-x.s)] = encCr (mirCr x) := by rw [mirCr, if_neg (by omega), h]; rfl
theorem mir_pos {x : Cr} (h : x.s = 1) : [iv x.a3, iv x.a0, iv x.a1, iv x.a2, iv (-x.s)] = encCr (mirCr x) := by rw [mirCr, if_pos h, h]; rfl
def mirD (d : Dia) : Dia := mapD mirCr d
def refD (d : Dia) : Dia := mapD refCr d
end Go.V
/- Diagrams as data, part i: texts. -/
namespace Go.V
open Go
def numS (n : Int) : ByteArray := ⟨(Lib.decDigits n.toNat).toArray⟩
theorem decDigits_len {u : Nat} (h : u < 100) : (Lib.decDigits u).length ≤ 2 := by
  rw [Lib.decDigits]
  split
  · simp
  · rw [Lib.decDigits, dif_pos (by omega)]; simp
theorem numS_size {n : Int} (h0 : 0 ≤ n) (h : n < 100) : (numS n).size ≤ 2 := by
  have := decDigits_len (u := n.toNat) (by omega)
  simpa [numS, ByteArray.size] using this
def sgnS (x : Cr) : ByteArray := if x.s < 0 then ⟨#[45]⟩ else ⟨#[43]⟩
def crTo (x : Cr) : Nat → ByteArray
  | 0 => sgnS x
  | p + 1 => crTo x p ++ (⟨#[32]⟩ ++ numS (x.arc p))
/-- Small numbers. -/
def SmallCr (x : Cr) : Prop := ∀ p, p < 4 → 0 ≤ x.arc p ∧ x.arc p < 100
theorem sgnS_size (x : Cr) : (sgnS x).size = 1 := by rw [sgnS]; split <;> rfl
theorem crTo_size {x : Cr} (h : SmallCr x) : ∀ p, p ≤ 4 → (crTo x p).size ≤ 1 + 3 * p
  | 0, _ => by rw [crTo, sgnS_size]; omega
  | p + 1, hp => by
    have h1 := crTo_size h p (by omega)
    have h2 := numS_size (h p (by omega)).1 (h p (by omega)).2
    rw [crTo, ByteArray.size_append, ByteArray.size_append, show (⟨#[32]⟩ : ByteArray).size = 1 from rfl]; omega
def crS (x : Cr) : ByteArray := crTo x 4
def semiS : ByteArray := ⟨#[59, 32]⟩
def barS : ByteArray := ⟨#[32, 124, 32]⟩
def joinS (xs : List ByteArray) : ByteArray := ⟨(Lib.join (xs.map (·.data.toList)) semiS.data.toList).toArray⟩
def textOf (d : Dia) : ByteArray := if d.cross.length = 0 then numS d.loops else joinS (d.cross.map crS) ++ barS ++ numS d.loops
def strs (l : List ByteArray) : List Value := l.map Value.string
theorem strs_snoc (l : List ByteArray) (s : ByteArray) : strs l ++ [.string s] = strs (l ++ [s]) := by simp [strs]
theorem lens_le {k : Nat} : ∀ {l : List ByteArray}, (∀ s ∈ l, s.size ≤ k) → Lib.lens (l.map (·.data.toList)) ≤ k * l.length
  | [], _ => Nat.zero_le _
  | s :: r, h => by
    have h1 := lens_le (l := r) (fun x hx => h x (List.mem_cons_of_mem _ hx))
    have h2 := h s (List.mem_cons_self ..)
    have h3 : s.data.toList.length = s.size := Array.length_toList
    simp only [Lib.lens, List.map_cons, List.sum_cons, List.length_cons, h3] at h1 ⊢
    rw [Nat.mul_add]; omega
theorem join_len {k : Nat} {l : List ByteArray} (h : ∀ s ∈ l, s.size ≤ k) : (Lib.join (l.map (·.data.toList)) semiS.data.toList).length ≤ (k + 2) * l.length := by
  cases l with
  | nil => exact Nat.zero_le _
  | cons s r =>
    have h1 := lens_le h
    rw [List.map_cons] at h1 ⊢
    rw [Lib.join_length]
    have : semiS.data.toList.length = 2 := rfl
    rw [this]
    simp only [List.length_map, List.length_cons] at h1 ⊢
    rw [Nat.add_mul]; omega
theorem joinS_size {k : Nat} {l : List ByteArray} (h : ∀ s ∈ l, s.size ≤ k) : (joinS l).size ≤ (k + 2) * l.length := by
  have := join_len h
  simpa [joinS, ByteArray.size] using this
theorem crS_take {d : Dia} (h : ∀ x ∈ d.cross, SmallCr x) : ∀ s ∈ d.cross.map crS, s.size ≤ 13 := fun s hs => by
  obtain ⟨x, hx, rfl⟩ := List.mem_map.1 hs
  exact crTo_size (h x hx) 4 (by omega)
end Go.V
/- Diagrams as data, part j: the chapter's examples. -/
namespace Go.V
open Go
def hopfD : Dia := ⟨[⟨0, 3, 1, 2, 1⟩, ⟨3, 0, 2, 1, 1⟩], 0⟩
def flatD : Dia := ⟨[⟨0, 3, 1, 2, 1⟩, ⟨3, 1, 2, 0, -1⟩], 0⟩
def mirH : Dia := ⟨[⟨2, 0, 3, 1, -1⟩, ⟨1, 3, 0, 2, -1⟩], 0⟩
theorem hopf_sound : SoundP hopfD := by unfold SoundP; decide +kernel
theorem flat_sound : SoundP flatD := by unfold SoundP; decide +kernel
theorem mirH_sound : SoundP mirH := by unfold SoundP; decide +kernel
theorem mir_hopf : mapD mirCr hopfD = mirH := by decide +kernel
theorem planar_of_conn {d : Dia} (h : ∀ c c', c < d.cross.length → c' < d.cross.length → Conn d c c') (hn : (regsOf d).length = d.cross.length + 2) : PlanarP d := fun c hc => by
  have h1 : pieceOf d c = List.range d.cross.length := by
    rw [pieceOf, List.filter_eq_self]
    intro x hx
    exact connB_iff.2 (h c x hc (List.mem_range.1 hx))
  have h2 : cntReg d c = (regsOf d).length := by
    rw [cntReg, List.filter_eq_self.2]
    intro r hr
    obtain ⟨q, hq, e⟩ := regsTo_mem d _ r hr
    have := (regionOf_head (d := d) (q := q) (by omega)).1
    rw [e, this]
    exact connB_iff.2 (h c _ hc (by omega))
  rw [h1, h2, List.length_range, hn]
theorem conn_two {d : Dia} (hs : SoundP d) (hl : d.cross.length = 2) {p : Nat} (hp : p < 4) (h : otherQ d (4 * 0 + p) / 4 = 1) : ∀ c c', c < d.cross.length → c' < d.cross.length → Conn d c c' := by
  have h01 : Conn d 0 1 := h ▸ Conn.step .refl hp
  have h10 : Conn d 1 0 := h01.symm hs (by omega)
  intro c c' hc hc'
  have h1 : c = 0 ∨ c = 1 := by omega
  have h2 : c' = 0 ∨ c' = 1 := by omega
  rcases h1 with rfl | rfl <;> rcases h2 with rfl | rfl
  · exact .refl
  · exact h01
  · exact h10
  · exact .refl
theorem hopf_ok : checkI hopfD = 0 := checkI_ok.2 ⟨hopf_sound, planar_of_conn (conn_two hopf_sound rfl (p := 0) (by decide) (by decide +kernel)) (by decide +kernel)⟩
theorem mirH_ok : checkI mirH = 0 := checkI_ok.2 ⟨mirH_sound, planar_of_conn (conn_two mirH_sound rfl (p := 0) (by decide) (by decide +kernel)) (by decide +kernel)⟩
theorem flat_bad : checkI flatD = 221 := checkI_unplanar flat_sound fun h => by
  have h1 := h 0 (by decide)
  have h2 : cntReg flatD 0 ≤ (regsOf flatD).length := List.length_filter_le _ _
  have h3 : (regsOf flatD).length = 2 := by decide +kernel
  have h4 : 0 < (pieceOf flatD 0).length := List.length_pos_of_mem (piece_self (by decide))
  omega
theorem hopf_comp : compOf hopfD = [0, 0, 1, 1] := by decide +kernel
theorem hopf_count : compCount hopfD = 2 := by decide +kernel
theorem hopf_writhe : writhe hopfD = 2 := by decide +kernel
theorem hopf_linkR : linkR hopfD 0 1 = 1 := by decide +kernel
theorem hopf_linkE : linkE hopfD 0 1 = 0 := by decide +kernel
theorem hopf_regs : (regsOf hopfD).length = 4 := by decide +kernel
theorem mirH_small : ∀ x ∈ mirH.cross, SmallCr x := by unfold SmallCr; decide +kernel
theorem num_small {i : Nat} (h : i < 10) : numS (i : Int) = ⟨#[UInt8.ofNat (48 + i)]⟩ := by
  rw [numS, Int.toNat_natCast, Lib.decDigits, dif_pos h]
theorem mirH_text : textOf mirH = ⟨#[45, 32, 50, 32, 48, 32, 51, 32, 49, 59, 32, 45, 32, 49, 32, 51, 32, 48, 32, 50, 32, 124, 32, 48]⟩ := by
  have n0 := num_small (i := 0) (by decide)
  have n1 := num_small (i := 1) (by decide)
  have n2 := num_small (i := 2) (by decide)
  have n3 := num_small (i := 3) (by decide)
  simp only [textOf, mirH, List.length_cons, List.length_nil, List.map_cons, List.map_nil, crS, crTo, Cr.arc, sgnS]
  simp only [show ((0 : Nat) : Int) = 0 from rfl, show ((1 : Nat) : Int) = 1 from rfl, show ((2 : Nat) : Int) = 2 from rfl, show ((3 : Nat) : Int) = 3 from rfl] at n0 n1 n2 n3
  rw [n0, n1, n2, n3]
  decide +kernel
end Go.V
/- Plain laws, part k: how many components there are; each place lies in exactly one region. -/
namespace Go.V
open Go
/-! ### The greatest number is the count -/
theorem markC_keep {nx : Nat → Nat} {k : Int} {y : Int} (hy : 0 ≤ y) : ∀ (f : Nat) (out : List Int) (b i : Nat), out[i]? = some y → (markC nx k f out b)[i]? = some y
  | 0, _, _, _, h => h
  | f + 1, out, b, i, h => by
    rw [markC]
    split
    · rename_i hb
      refine markC_keep hy f _ _ i ?_
      rw [List.getElem?_set]
      split
      · rename_i e; subst e
        rw [List.getD_eq_getElem?_getD, h] at hb
        simp at hb; omega
      · exact h
    · exact h
theorem compTo_lt (nx : Nat → Nat) (N a : Nat) : ∀ x ∈ (compTo nx N a).1, x < (compTo nx N a).2 := by
  induction a with
  | zero => intro x hx; simp [compTo] at hx; simp [compTo]; omega
  | succ a ih =>
    rw [compTo_succ, compStep]
    split
    · exact ih
    · intro x hx
      have := markC_le (m := ((compTo nx N a).2 : Int)) (Int.le_refl _) N _ _ (fun x hx => by have := ih x hx; omega) x hx
      show x < (((compTo nx N a).2 + 1 : Nat) : Int)
      omega
theorem compTo_onto (nx : Nat → Nat) (N a : Nat) (ha : a ≤ N) : ∀ k : Nat, k < (compTo nx N a).2 → ∃ i : Nat, (compTo nx N a).1[i]? = some (k : Int) := by
  induction a with
  | zero => intro k hk; simp [compTo] at hk
  | succ a ih =>
    rw [compTo_succ, compStep]
    split
    · exact ih (by omega)
    · rename_i hn
      intro k hk
      have hk : k < (compTo nx N a).2 + 1 := hk
      rcases Nat.lt_or_ge k (compTo nx N a).2 with h | h
      · obtain ⟨i, hi⟩ := ih (by omega) k h
        exact ⟨i, markC_keep (by omega) N _ _ i hi⟩
      · obtain rfl : k = (compTo nx N a).2 := by omega
        refine ⟨a, ?_⟩
        obtain ⟨M, rfl⟩ : ∃ M, N = M + 1 := ⟨N - 1, by omega⟩
        show (markC nx _ (M + 1) _ a)[a]? = _
        rw [markC_go (by omega)]
        refine markC_keep (by omega) M _ _ a ?_
        rw [List.getElem?_set, if_pos rfl, if_pos (by rw [compTo_len]; omega)]
theorem maxOf_go (xs : List Int) : ∀ n : Int, (∀ x ∈ xs, x + 1 ≤ xs.foldl (fun n x => max n (x + 1)) n) ∧ n ≤ xs.foldl (fun n x => max n (x + 1)) n := by
  induction xs with
  | nil => intro n; exact ⟨fun x hx => (by cases hx), Int.le_refl _⟩
  | cons y r ih =>
    intro n
    obtain ⟨h1, h2⟩ := ih (max n (y + 1))
    rw [List.foldl_cons]
    refine ⟨fun x hx => ?_, by omega⟩
    rcases List.mem_cons.1 hx with rfl | hx
    · omega
    · exact h1 x hx
theorem maxOf_count (d : Dia) : maxOf (compOf d) = compCount d := by
  have h1 := (maxTo_bound (xs := compOf d) (m := (compCount d : Int)) (by omega) (fun x hx => by have := compTo_lt _ _ _ x hx; rw [← compCount] at this; omega) (compOf d).length).2
  rw [maxTo, List.take_length] at h1
  have h2 := maxOf_go (compOf d) 0
  rw [← maxOf] at h2
  rcases Nat.eq_zero_or_pos (compCount d) with h | h
  · have := h2.2; omega
  · obtain ⟨i, hi⟩ := compTo_onto (nextN d) (2 * d.cross.length) (2 * d.cross.length) (Nat.le_refl _) (compCount d - 1) (by rw [← compCount]; omega)
    have := h2.1 _ (List.mem_of_getElem? hi)
    omega
/-! ### The regions part the places -/
theorem region_nodup {d : Dia} (h : SoundP d) {q : Nat} (hq : q < 4 * d.cross.length) : (regionOf d q).Nodup := by
  obtain ⟨⟨h0, h1, h2⟩, h3⟩ := h.orb hq
  rw [h3, List.nodup_iff_pairwise_ne, List.pairwise_map]
  refine List.Pairwise.imp_of_mem ?_ List.pairwise_lt_range
  intro i j hi hj hij e
  have hj := List.mem_range.1 hj
  have back : ∀ (a b : Nat), a ≤ b → iter (stepQ d) a q = iter (stepQ d) b q → iter (stepQ d) (b - a) q = q := by
    intro a
    induction a with
    | zero => intro b _ e; simpa [iter] using e.symm
    | succ a ih =>
      intro b hab e
      obtain ⟨b, rfl⟩ : ∃ c, b = c + 1 := ⟨b - 1, by omega⟩
      rw [iter_succ, iter_succ] at e
      have := h.step_inj (iter_lt (fun x hx => h.step_lt hx) a q hq) (iter_lt (fun x hx => h.step_lt hx) b q hq) e
      have := ih b (by omega) this
      rwa [show b + 1 - (a + 1) = b - a by omega]
  exact h2 (j - i) (by omega) (by omega) (back i j (by omega) e)
theorem mem_region {d : Dia} (h : SoundP d) {q y : Nat} (hq : q < 4 * d.cross.length) : y ∈ regionOf d q ↔ ∃ k, y = iter (stepQ d) k q := by
  obtain ⟨⟨h0, h1, h2⟩, h3⟩ := h.orb hq
  constructor
  · intro hy; rw [h3] at hy; obtain ⟨k, _, e⟩ := List.mem_map.1 hy; exact ⟨k, e.symm⟩
  · rintro ⟨k, rfl⟩
    induction k with
    | zero => rw [h3]; exact List.mem_map.2 ⟨0, List.mem_range.2 h0, rfl⟩
    | succ k ih =>
      rw [h3] at ih ⊢
      obtain ⟨m, hm, e⟩ := List.mem_map.1 ih
      have hm := List.mem_range.1 hm
      rw [iter_succ, ← e, ← iter_succ (stepQ d) m q]
      rcases Nat.lt_or_ge (m + 1) (regionOf d q).length with h4 | h4
      · exact List.mem_map.2 ⟨m + 1, List.mem_range.2 h4, rfl⟩
      · have e2 : m + 1 = (regionOf d q).length := by omega
        exact List.mem_map.2 ⟨0, List.mem_range.2 h0, by rw [e2, h1]; rfl⟩
structure RegOk (d : Dia) (Q : Nat) : Prop where
  nodup : (regsTo d Q).flatten.Nodup
  lt : ∀ x ∈ (regsTo d Q).flatten, x < 4 * d.cross.length
  back : ∀ x, x < 4 * d.cross.length → stepQ d x ∈ (regsTo d Q).flatten → x ∈ (regsTo d Q).flatten
  all : ∀ q, q < Q → q ∈ (regsTo d Q).flatten
theorem mem_flat {d : Dia} {Q x : Nat} : x ∈ (regsTo d Q).flatten ↔ (regsTo d Q).any (fun r => r.contains x) = true := by
  rw [List.any_eq_true, List.mem_flatten]
  exact ⟨fun ⟨r, h1, h2⟩ => ⟨r, h1, List.contains_iff_mem.2 h2⟩, fun ⟨r, h1, h2⟩ => ⟨r, h1, List.contains_iff_mem.1 h2⟩⟩
theorem regOk {d : Dia} (h : SoundP d) : ∀ Q, Q ≤ 4 * d.cross.length → RegOk d Q := by
  intro Q
  induction Q with
  | zero => intro _; exact ⟨by simp [regsTo], by simp [regsTo], by simp [regsTo], fun q hq => by omega⟩
  | succ Q ih =>
    intro hQ
    have r := ih (by omega)
    by_cases hin : (regsTo d Q).any (fun r => r.contains Q) = true
    · have e : regsTo d (Q + 1) = regsTo d Q := by rw [regsTo_succ, regStep, if_pos hin]
      refine ⟨e ▸ r.nodup, e ▸ r.lt, e ▸ r.back, fun q hq => ?_⟩
      rw [e]
      rcases Nat.lt_or_ge q Q with h1 | h1
      · exact r.all q h1
      · obtain rfl : q = Q := by omega
        exact mem_flat.2 hin
    · have e : regsTo d (Q + 1) = regsTo d Q ++ [regionOf d Q] := by rw [regsTo_succ, regStep, if_neg hin]
      have hnot : Q ∉ (regsTo d Q).flatten := fun hm => hin (mem_flat.1 hm)
      have hdis : ∀ k, iter (stepQ d) k Q ∉ (regsTo d Q).flatten := by
        intro k
        induction k with
        | zero => exact hnot
        | succ k ih2 => intro hm; rw [iter_succ] at hm; exact ih2 (r.back _ (iter_lt (fun x hx => h.step_lt hx) k Q (by omega)) hm)
      have hfl : (regsTo d (Q + 1)).flatten = (regsTo d Q).flatten ++ regionOf d Q := by rw [e]; simp
      refine ⟨?_, fun x hx => ?_, fun x hx hm => ?_, fun q hq => ?_⟩
      · rw [hfl, List.nodup_append]
        refine ⟨r.nodup, region_nodup h (by omega), fun a ha b hb e2 => ?_⟩
        subst e2
        obtain ⟨k, rfl⟩ := (mem_region h (by omega)).1 hb
        exact hdis k ha
      · rw [hfl] at hx
        rcases List.mem_append.1 hx with hx | hx
        · exact r.lt x hx
        · obtain ⟨k, rfl⟩ := (mem_region h (by omega)).1 hx
          exact iter_lt (fun x hx => h.step_lt hx) k Q (by omega)
      · rw [hfl] at hm ⊢
        rcases List.mem_append.1 hm with hm | hm
        · exact List.mem_append.2 (.inl (r.back x hx hm))
        · refine List.mem_append.2 (.inr ?_)
          obtain ⟨k, hk⟩ := (mem_region h (by omega)).1 hm
          have ho := (h.orb (q := Q) (by omega)).1
          -- x is the place ahead of its step
          cases k with
          | zero =>
            have : stepQ d x = stepQ d (iter (stepQ d) ((regionOf d Q).length - 1) Q) := by
              rw [← iter_succ (stepQ d) _ Q, show (regionOf d Q).length - 1 + 1 = (regionOf d Q).length by have := ho.1; omega, ho.2.1]; exact hk
            have hx2 := h.step_inj hx (iter_lt (fun x hx => h.step_lt hx) _ Q (by omega)) this
            exact (mem_region h (by omega)).2 ⟨_, hx2⟩
          | succ k =>
            rw [iter_succ] at hk
            exact (mem_region h (by omega)).2 ⟨k, h.step_inj hx (iter_lt (fun x hx => h.step_lt hx) k Q (by omega)) hk⟩
      · rw [hfl]
        rcases Nat.lt_or_ge q Q with h1 | h1
        · exact List.mem_append.2 (.inl (r.all q h1))
        · obtain rfl : q = Q := by omega
          exact List.mem_append.2 (.inr ((mem_region h (by omega)).2 ⟨0, rfl⟩))
theorem regs_flat_len {d : Dia} (h : SoundP d) : (regsOf d).flatten.length = 4 * d.cross.length := by
  have r := regOk h (4 * d.cross.length) (Nat.le_refl _)
  have h1 := List.Nodup.length_le_of_subset r.nodup (l₂ := List.range (4 * d.cross.length)) (fun x hx => List.mem_range.2 (r.lt x hx))
  have h2 := List.Nodup.length_le_of_subset (List.nodup_range (n := 4 * d.cross.length)) (l₂ := (regsTo d (4 * d.cross.length)).flatten) (fun x hx => r.all x (List.mem_range.1 hx))
  rw [List.length_range] at h1 h2
  show (regsTo d (4 * d.cross.length)).flatten.length = _
  omega
def lenTo (rs : List (Value × List Nat)) (i : Nat) : Nat := ((rs.take i).map fun a => a.2.length).sum
theorem lenTo_succ {rs : List (Value × List Nat)} {i : Nat} {a : Value × List Nat} (h : rs[i]? = some a) : lenTo rs (i + 1) = lenTo rs i + a.2.length := by
  simp only [lenTo, List.take_add_one, h, Option.toList_some, List.map_append, List.sum_append]; simp
theorem lenTo_all {d : Dia} (h : SoundP d) {rs : List (Value × List Nat)} (hr : rs.map Prod.snd = regsOf d) : lenTo rs rs.length = 4 * d.cross.length := by
  rw [← regs_flat_len h, lenTo, List.take_length, List.length_flatten, ← hr, List.map_map]; rfl
theorem lenTo_le {d : Dia} {rs : List (Value × List Nat)} (hr : ∀ a ∈ rs, a.2.length ≤ 4 * d.cross.length) : ∀ i, lenTo rs i ≤ 4 * d.cross.length * i := by
  intro i
  induction i with
  | zero => simp [lenTo]
  | succ i ih =>
    rcases Nat.lt_or_ge i rs.length with hi | hi
    · obtain ⟨a, ha⟩ := get_of_lt hi
      have := hr a (List.mem_of_getElem? ha)
      rw [lenTo_succ ha, Nat.mul_succ]; omega
    · have e : lenTo rs (i + 1) = lenTo rs i := by simp only [lenTo]; rw [List.take_of_length_le (by omega), List.take_of_length_le hi]
      rw [e, Nat.mul_succ]; omega
end Go.V
/- Lists of numbers as arguments. -/
namespace Go.V
open Go
abbrev lisV (base : Option Addr) (cap : Nat) (xs : List Int) : Value := .slice base xs.length cap
structure IntsAt (w : World) (base : Option Addr) (A : Addr) (cap : Nat) (xs : List Int) : Prop where
  base : 0 < xs.length → base = some A
  cell : Cells w A (ints xs)
  le : xs.length ≤ cap
  len : cap ≤ 9223372036854775807
theorem IntsAt.old {w w' : World} {base : Option Addr} {A : Addr} {cap : Nat} {xs : List Int} (h : IntsAt w base A cap xs) (ho : Old Nil w w') : IntsAt w' base A cap xs := ⟨h.base, fun j v hj => ho.cell (h.cell j v hj) (fun x => x), h.le, h.len⟩
theorem IntsAt.sym {w w' : World} {L : List HL} {base : Option Addr} {A : Addr} {cap : Nat} {xs : List Int} (h : IntsAt w base A cap xs) (hs : Sym w Nil L w') : IntsAt w' base A cap xs := h.old hs.old
theorem IntsAt.shape {w : World} {base : Option Addr} {A : Addr} {cap : Nat} {xs : List Int} (h : IntsAt w base A cap xs) : Shape (lisV base cap xs) xs.length := shape_slice h.base
theorem IntsAt.cells {w : World} {base : Option Addr} {A : Addr} {cap : Nat} {xs : List Int} (h : IntsAt w base A cap xs) (n : Nat) : Cells w (vaddr (.slice base n cap)) (ints xs) := by
  rcases Nat.eq_zero_or_pos xs.length with h0 | h0
  · rw [List.length_eq_zero_iff.1 h0]; exact fun j v hj => by simp [ints] at hj
  · rw [h.base h0]; exact h.cell
theorem IntsAt.pre {w : World} {base : Option Addr} {A : Addr} {cap : Nat} {xs : List Int} (h : IntsAt w base A cap xs) {i : Nat} (hi : i ≤ xs.length) : Shape (.slice base i cap) (xs.take i).length ∧ Cells w (vaddr (.slice base i cap)) (ints (xs.take i)) := by
  have hl : (xs.take i).length = i := by simp; omega
  rw [hl]
  refine ⟨shape_slice (A := A) fun h0 => h.base (by omega), fun j v hj => h.cells i j v ?_⟩
  simp only [ints, List.getElem?_map, List.getElem?_take] at hj ⊢
  split at hj
  · exact hj
  · simp at hj
def distB (xs : List Int) (n : Int) : Bool := decide (xs.Nodup ∧ ∀ x ∈ xs, 0 ≤ x ∧ x < n)
theorem nodup_take_succ {xs : List Int} {i : Nat} {y : Int} (hy : xs[i]? = some y) (h : (xs.take i).Nodup) (hn : y ∉ xs.take i) : (xs.take (i + 1)).Nodup := by
  rw [List.take_add_one, hy]
  simp only [Option.toList_some]
  rw [List.nodup_append]
  refine ⟨h, by simp, fun a ha b hb e => ?_⟩
  rw [List.mem_singleton.1 hb] at e
  exact hn (e ▸ ha)
theorem not_nodup {xs : List Int} {i : Nat} {y : Int} (hy : xs[i]? = some y) (hm : y ∈ xs.take i) : ¬ xs.Nodup := fun h => by
  obtain ⟨j, hj⟩ := List.getElem?_of_mem hm
  have hji : j < i := by have := (List.getElem?_eq_some_iff.1 hj).1; simp at this; omega
  rw [List.getElem?_take_of_lt hji] at hj
  obtain ⟨h1, e1⟩ := List.getElem?_eq_some_iff.1 hj
  obtain ⟨h2, e2⟩ := List.getElem?_eq_some_iff.1 hy
  exact (List.pairwise_iff_getElem.1 (List.nodup_iff_pairwise_ne.1 h)) j i h1 h2 hji (e1.trans e2.symm)
/-! ### Reversal -/
def revB (lo hi : Bool) (x : Cr) : Cr := ⟨if lo then x.a2 else x.a0, if lo then x.a3 else x.a1, if lo then x.a0 else x.a2, if lo then x.a1 else x.a3, if lo == hi then x.s else -x.s⟩
def revCr (of comps : List Int) (x : Cr) : Cr := revB (decide (of.getD x.a0.toNat 0 ∈ comps)) (decide (of.getD x.a1.toNat 0 ∈ comps)) x
theorem rev_tt {lo hi : Bool} {x : Cr} (h : lo = true) (k : (!(lo == hi)) = true) : [iv x.a2, iv x.a3, iv x.a0, iv x.a1, iv (-x.s)] = encCr (revB lo hi x) := by subst h; cases hi <;> simp_all [revB, encCr]
theorem rev_tf {lo hi : Bool} {x : Cr} (h : lo = true) (k : (!(lo == hi)) = false) : [iv x.a2, iv x.a3, iv x.a0, iv x.a1, iv x.s] = encCr (revB lo hi x) := by subst h; cases hi <;> simp_all [revB, encCr]
theorem rev_ft {lo hi : Bool} {x : Cr} (h : lo = false) (k : (!(lo == hi)) = true) : [iv x.a0, iv x.a1, iv x.a2, iv x.a3, iv (-x.s)] = encCr (revB lo hi x) := by subst h; cases hi <;> simp_all [revB, encCr]
theorem rev_ff {lo hi : Bool} {x : Cr} (h : lo = false) (k : (!(lo == hi)) = false) : [iv x.a0, iv x.a1, iv x.a2, iv x.a3, iv x.s] = encCr (revB lo hi x) := by subst h; cases hi <;> simp_all [revB, encCr]
end Go.V
/- Lists of components, marked. -/
namespace Go.V
open Go
def markB (xs : List Int) (N i : Nat) : List Bool := (List.range N).map fun k : Nat => decide ((k : Int) ∈ xs.take i)
theorem markB_len (xs : List Int) (N i : Nat) : (markB xs N i).length = N := by simp [markB]
theorem markB_get {xs : List Int} {N i k : Nat} (h : k < N) : (markB xs N i)[k]? = some (decide ((k : Int) ∈ xs.take i)) := by simp [markB, h]
theorem markB_zero (xs : List Int) (N : Nat) : List.replicate N false = markB xs N 0 := by
  apply List.ext_getElem?; intro i
  by_cases h : i < N <;> simp [markB, h]
theorem markB_set {xs : List Int} {N i : Nat} {y : Nat} (hy : xs[i]? = some (y : Int)) : (markB xs N i).set y true = markB xs N (i + 1) := by
  apply List.ext_getElem?; intro k
  rw [List.getElem?_set, markB_len]
  by_cases hk : k < N
  · rw [markB_get hk, markB_get hk]
    by_cases e : y = k
    · subst e; rw [if_pos rfl, if_pos hk, List.take_add_one, hy]; simp
    · have : ¬ ((k : Int) = (y : Int)) := by omega
      rw [if_neg e, List.take_add_one, hy]; simp [this]
  · have hr : (markB xs N (i + 1))[k]? = none := List.getElem?_eq_none (by rw [markB_len]; omega)
    have hl : (markB xs N i)[k]? = none := List.getElem?_eq_none (by rw [markB_len]; omega)
    by_cases e : y = k
    · subst e; rw [if_pos rfl, if_neg (by omega), hr]
    · rw [if_neg e, hl, hr]
theorem comp_range {d : Dia} (_ : SoundP d) {y : Int} (hy : y ∈ compOf d) (h0 : 0 ≤ y) : 0 ≤ y ∧ y < ((compCount d + d.loops.toNat : Nat) : Int) := by
  have := compTo_lt _ _ _ y hy
  rw [← compCount] at this
  exact ⟨h0, by omega⟩
theorem compTo_done (nx : Nat → Nat) (N a : Nat) (ha : a ≤ N) : ∀ i : Nat, i < a → ∃ y, (compTo nx N a).1[i]? = some y ∧ 0 ≤ y := by
  induction a with
  | zero => intro i hi; omega
  | succ a ih =>
    rw [compTo_succ, compStep]
    have hl : a < (compTo nx N a).1.length := by rw [compTo_len]; omega
    split
    · rename_i h0
      intro i hi
      rcases Nat.lt_or_ge i a with h | h
      · exact ih (by omega) i h
      · obtain rfl : i = a := by omega
        exact ⟨_, getD_get hl 0, h0⟩
    · rename_i hn
      intro i hi
      rcases Nat.lt_or_ge i a with h | h
      · obtain ⟨y, hy, h0⟩ := ih (by omega) i h
        exact ⟨y, markC_keep h0 N _ _ i hy, h0⟩
      · obtain rfl : i = a := by omega
        refine ⟨((compTo nx N i).2 : Int), ?_, by omega⟩
        obtain ⟨M, rfl⟩ : ∃ M, N = M + 1 := ⟨N - 1, by omega⟩
        show (markC nx _ (M + 1) _ i)[i]? = _
        rw [markC_go (by omega)]
        refine markC_keep (by omega) M _ _ i ?_
        rw [List.getElem?_set, if_pos rfl, if_pos hl]
theorem comp_nonneg {d : Dia} {y : Int} (hy : y ∈ compOf d) : 0 ≤ y := by
  obtain ⟨i, hi⟩ := List.getElem?_of_mem hy
  have hl := (List.getElem?_eq_some_iff.1 hi).1
  rw [compOf_len] at hl
  obtain ⟨z, hz, h0⟩ := compTo_done (nextN d) (2 * d.cross.length) (2 * d.cross.length) (Nat.le_refl _) i hl
  rw [show (compTo (nextN d) (2 * d.cross.length) (2 * d.cross.length)).1 = compOf d from rfl, hi] at hz
  cases hz; exact h0
end Go.V
/- Plain laws, part n: diagrams whose places are relabelled within their crossings. -/
namespace Go.V
open Go
theorem SoundP.other_arc {d : Dia} (h : SoundP d) {q : Nat} (hq : q < 4 * d.cross.length) : V.arcQ d (otherQ d q) = V.arcQ d q := (findEnd_some (h.other hq)).2.1
theorem SoundP.other_inn {d : Dia} (h : SoundP d) {q : Nat} (hq : q < 4 * d.cross.length) : innQ d (otherQ d q) = !innQ d q := (findEnd_some (h.other hq)).2.2.1
theorem SoundP.other_ne {d : Dia} (h : SoundP d) {q : Nat} (hq : q < 4 * d.cross.length) : otherQ d q ≠ q := fun e => by
  have := h.other_inn hq
  rw [e] at this
  cases hi : innQ d q <;> rw [hi] at this <;> cases this
theorem SoundP.same_arc {d : Dia} (h : SoundP d) {q q' : Nat} (hq : q < 4 * d.cross.length) (hq' : q' < 4 * d.cross.length) (e : V.arcQ d q = V.arcQ d q') : q' = q ∨ q' = otherQ d q := by
  by_cases hi : innQ d q = innQ d q'
  · exact .inl (h.place_unique hq' hq e.symm hi.symm)
  · refine .inr (h.place_unique hq' (h.other_lt hq) (by rw [h.other_arc hq, e]) ?_)
    rw [h.other_inn hq]
    cases h1 : innQ d q <;> cases h2 : innQ d q' <;> simp [h1, h2] at hi ⊢
structure Relab (d d' : Dia) (σ : Nat → Nat) : Prop where
  len : d'.cross.length = d.cross.length
  cr : ∀ q, q < 4 * d.cross.length → σ q / 4 = q / 4
  inj : ∀ q q', q < 4 * d.cross.length → q' < 4 * d.cross.length → σ q = σ q' → q = q'
  arc : ∀ q, q < 4 * d.cross.length → arcQ d' q = arcQ d (σ q)
theorem Relab.lt {d d' : Dia} {σ : Nat → Nat} (r : Relab d d' σ) {q : Nat} (hq : q < 4 * d.cross.length) : σ q < 4 * d.cross.length := by
  have := r.cr q hq; omega
theorem Relab.other {d d' : Dia} {σ : Nat → Nat} (r : Relab d d' σ) (h : SoundP d) (h' : SoundP d') {q : Nat} (hq : q < 4 * d.cross.length) : σ (otherQ d' q) = otherQ d (σ q) := by
  have hq' : q < 4 * d'.cross.length := by rw [r.len]; exact hq
  have ho : otherQ d' q < 4 * d.cross.length := by rw [← r.len]; exact h'.other_lt hq'
  have e : V.arcQ d (σ q) = V.arcQ d (σ (otherQ d' q)) := by rw [← r.arc q hq, ← r.arc _ ho, h'.other_arc hq']
  rcases h.same_arc (r.lt hq) (r.lt ho) e with h1 | h1
  · exact absurd (r.inj _ _ ho hq h1) (h'.other_ne hq')
  · exact h1
theorem Relab.conn {d d' : Dia} {σ : Nat → Nat} (r : Relab d d' σ) (h : SoundP d) (h' : SoundP d') {a c : Nat} (ha : a < d.cross.length) (hc : Conn d' a c) : Conn d a c := by
  induction hc with
  | refl => exact .refl
  | @step c p hc hp ih =>
    have hl : c < d.cross.length := by rw [← r.len]; exact hc.lt h' (by rw [r.len]; exact ha)
    have hq : 4 * c + p < 4 * d.cross.length := by omega
    have ho : otherQ d' (4 * c + p) < 4 * d.cross.length := by rw [← r.len]; exact h'.other_lt (by rw [r.len]; exact hq)
    have h1 := r.other h h' hq
    have h2 := r.cr _ ho
    have h3 := r.cr _ hq
    have h4 := Conn.step (p := σ (4 * c + p) % 4) ih (by omega)
    rw [show 4 * c + σ (4 * c + p) % 4 = σ (4 * c + p) by omega, ← h1, h2] at h4
    exact h4
theorem crAt_map {f : Cr → Cr} {d : Dia} {c : Nat} (hc : c < d.cross.length) : crAt (mapD f d) c = f (crAt d c) := by
  have h : (mapD f d).cross[c]? = some (f (crAt d c)) := by simp [mapD, crAt_get hc]
  exact crAt_eq h
def rotK (x : Cr) : Nat := if x.s = 1 then 3 else 1
def sigM (d : Dia) (q : Nat) : Nat := 4 * (q / 4) + (q % 4 + rotK (crAt d (q / 4))) % 4
theorem mirCr_arc (x : Cr) {p : Nat} (hp : p < 4) : (mirCr x).arc p = x.arc ((p + rotK x) % 4) := by
  simp only [mirCr, rotK]
  match p, hp with
  | 0, _ => split <;> rfl
  | 1, _ => split <;> rfl
  | 2, _ => split <;> rfl
  | 3, _ => split <;> rfl
theorem relab_mir (d : Dia) : Relab d (mapD mirCr d) (sigM d) where
  len := mapD_len _ _
  cr q _ := by simp only [sigM]; omega
  inj q q' _ _ e := by
    simp only [sigM] at e
    have h4 : q / 4 = q' / 4 := by omega
    rw [h4] at e
    omega
  arc q hq := by
    have hc : q / 4 < d.cross.length := by omega
    rw [arcQ, crAt_map hc, mirCr_arc _ (by omega), arcQ, sigM, show (4 * (q / 4) + (q % 4 + rotK (crAt d (q / 4))) % 4) / 4 = q / 4 by omega, show (4 * (q / 4) + (q % 4 + rotK (crAt d (q / 4))) % 4) % 4 = (q % 4 + rotK (crAt d (q / 4))) % 4 by omega]
def sigR (q : Nat) : Nat := 4 * (q / 4) + (4 - q % 4) % 4
theorem refCr_arc (x : Cr) {p : Nat} (hp : p < 4) : (refCr x).arc p = x.arc ((4 - p) % 4) := by
  match p, hp with
  | 0, _ => rfl
  | 1, _ => rfl
  | 2, _ => rfl
  | 3, _ => rfl
theorem relab_ref (d : Dia) : Relab d (mapD refCr d) sigR where
  len := mapD_len _ _
  cr q _ := by simp only [sigR]; omega
  inj q q' _ _ e := by simp only [sigR] at e; omega
  arc q hq := by
    have hc : q / 4 < d.cross.length := by omega
    rw [arcQ, crAt_map hc, refCr_arc _ (by omega), arcQ, sigR, show (4 * (q / 4) + (4 - q % 4) % 4) / 4 = q / 4 by omega, show (4 * (q / 4) + (4 - q % 4) % 4) % 4 = (4 - q % 4) % 4 by omega]
end Go.V
