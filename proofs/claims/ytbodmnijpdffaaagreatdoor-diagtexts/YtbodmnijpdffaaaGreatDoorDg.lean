/- Diagrams as data, part g: linking numbers. -/
import Derived.Test.YtbodmnijpdffaaaGreatDoorVa
import Derived.Lib.Join
import Derived.Lib.ItoaNum
import Derived.RecoverIn
import Derived.Laws.IdiomStrings
import Derived.Laws.DeepStrings4
import Derived.Test.YtbodmnijpdffaaaGreatDoorProg
import Derived.KernelRfl
namespace Go.V
open Go
def lowC (of : List Int) (x : Cr) : Int := of.getD x.a0.toNat 0
def upC (of : List Int) (x : Cr) : Int := of.getD x.a1.toNat 0
def linkOne (of : List Int) (i j : Int) (x : Cr) : Int := if lowC of x = i ∧ upC of x = j ∨ lowC of x = j ∧ upC of x = i then x.s else 0
def linkTo (of : List Int) (l : List Cr) (i j : Int) (c : Nat) : Int := ((l.take c).map (linkOne of i j)).sum
def linkSum (d : Dia) (i j : Int) : Int := linkTo (compOf d) d.cross i j d.cross.length
theorem linkTo_succ {of : List Int} {l : List Cr} {i j : Int} {c : Nat} {x : Cr} (hx : l[c]? = some x) : linkTo of l i j (c + 1) = linkTo of l i j c + linkOne of i j x := by
  simp only [linkTo, List.take_add_one, hx, Option.toList_some, List.map_append, List.sum_append]
  simp
theorem linkOne_bound {of : List Int} {i j : Int} {x : Cr} (h : x.s = 1 ∨ x.s = -1) : -1 ≤ linkOne of i j x ∧ linkOne of i j x ≤ 1 := by
  simp only [linkOne]; split <;> omega
theorem linkTo_bound {of : List Int} {l : List Cr} {i j : Int} (h : ∀ x ∈ l, x.s = 1 ∨ x.s = -1) : ∀ c : Nat, -(c : Int) ≤ linkTo of l i j c ∧ linkTo of l i j c ≤ c := by
  intro c
  induction c with
  | zero => simp [linkTo]
  | succ c ih =>
    rcases Nat.lt_or_ge c l.length with hc | hc
    · obtain ⟨x, hx⟩ := get_of_lt hc
      have := linkOne_bound (of := of) (i := i) (j := j) (h x (List.mem_of_getElem? hx))
      rw [linkTo_succ hx]; omega
    · have e : linkTo of l i j (c + 1) = linkTo of l i j c := by simp only [linkTo]; rw [List.take_of_length_le (by omega), List.take_of_length_le hc]
      rw [e]; omega
theorem tdiv2_bound {s : Int} {n : Int} (h : -n ≤ s) (h2 : s ≤ n) (hn : 0 ≤ n) : -n ≤ s.tdiv 2 ∧ s.tdiv 2 ≤ n := by
  rw [Int.tdiv_eq_ediv]
  have : Int.sign 2 = 1 := rfl
  split <;> omega
def LinkBad (d : Dia) (i j : Int) : Prop := i < 0 ∨ j < 0 ∨ (compCount d : Int) + d.loops ≤ i ∨ (compCount d : Int) + d.loops ≤ j ∨ i = j
instance (d : Dia) (i j : Int) : Decidable (LinkBad d i j) := by unfold LinkBad; infer_instance
def linkR (d : Dia) (i j : Int) : Int := if LinkBad d i j then 0 else (linkSum d i j).tdiv 2
def linkE (d : Dia) (i j : Int) : Int := if LinkBad d i j then 1 else 0
end Go.V
/- The proof layer, part k: comparison of a slice with nil. -/
namespace Go.V
open Go
section nil
variable {C : Cx} {F : Fr} {L : List HL} {o : Oper}
theorem eq_nil {P : Program} {t e : TypeId} (ht : P.underlying t = some (.slice e)) (d : Nat) (a : Option Addr) (n c : Nat) (w : World) : (Op.equalIn (d + 1) t (.slice a n c) (.slice none 0 0)).run P w = .ok a.isNone w := by
  unfold Op.equalIn
  cases a <;> simp [run_underlying ht]
theorem Still.eqlNil {xt yt e : TypeId} {x y : Operand} {a : Option Addr} {n c : Nat} (ho : o.op = .binOp .eql xt x y yt) (hx : F.ev x = some (.slice a n c)) (hy : F.ev y = some (.slice none 0 0)) (ht : C.P.underlying xt = some (.slice e)) : Still C o F L (.bool a.isNone) :=
  ⟨fun c h => (by rw [ho] at h; cases h), fun a w ok => by
    have := eq_nil ht 9999 ‹Option Addr› n c w
    simp only [execOp, ho, ok.fr.ev hx, ok.fr.ev hy]; simp [eqGuard, binOp, Op.equal, Op.maxDepth, this]⟩
theorem Still.build_0 {t : TypeId} (g : Value) (ho : o.op = .build t #[]) (hr : ∀ w, (Instr.build t #[]).run C.P w = .ok g w) : Still C o F L g := Still.build (vs := #[]) ho (by simp) hr
end nil
end Go.V
/- Diagrams as data, part h: changed diagrams. -/
namespace Go.V
open Go
theorem encCr_len (x : Cr) : (encCr x).length = 5 := rfl
theorem encCr_one (l : List Cr) : (l.flatMap encCr).all Value.oneCell' = true := by
  rw [List.all_eq_true]
  intro u hu
  obtain ⟨x, _, hx⟩ := List.mem_flatMap.1 hu
  simp [encCr] at hx
  rcases hx with rfl | rfl | rfl | rfl | rfl <;> rfl
theorem DiaAt.cells {w : World} {base : Option Addr} {A : Addr} {d : Dia} (h : DiaAt w base A d) : Cells w A (d.cross.flatMap encCr) := fun j v hj => by
  rw [flat_get_inv encCr_len (by decide)] at hj
  cases hx : d.cross[j / 5]? with
  | none => rw [hx] at hj; cases hj
  | some x =>
    rw [hx] at hj
    have := h.cell (j / 5) x hx (j % 5) v hj
    rw [add_add] at this
    rwa [show j / 5 * 5 + j % 5 = j by omega] at this
theorem DiaAt.cells' {w : World} {base : Option Addr} {A B : Addr} {d : Dia} (h : DiaAt w base A d) (hb : base = some B) : Cells w B (d.cross.flatMap encCr) := by
  rcases Nat.eq_zero_or_pos d.cross.length with h0 | h0
  · have : d.cross = [] := List.length_eq_zero_iff.1 h0
    rw [this]; exact Cells.nil _ _
  · have := h.base h0
    rw [hb] at this
    cases this
    exact h.cells
theorem DiaAt.of_cells {w : World} {base : Option Addr} {A : Addr} {d : Dia} (hb : 0 < d.cross.length → base = some A) (hc : Cells w A (d.cross.flatMap encCr)) (hl : d.cross.length ≤ 9223372036854775807) (hw : ∀ x ∈ d.cross, x.Wf) (ho : In64 d.loops) : DiaAt w base A d :=
  ⟨hb, fun i x hi j v hj => by
    have := hc (i * 5 + j) v (flat_get encCr_len hi hj)
    rwa [← add_add] at this, hl, hw, ho⟩
def mapTo (f : Cr → Cr) (l : List Cr) (c : Nat) : List Cr := (l.take c).map f ++ l.drop c
theorem mapTo_len (f : Cr → Cr) (l : List Cr) (c : Nat) : (mapTo f l c).length = l.length := by simp [mapTo]; omega
theorem mapTo_get {f : Cr → Cr} {l : List Cr} {c : Nat} {x : Cr} (hx : l[c]? = some x) : (mapTo f l c)[c]? = some x := by
  have hc := (List.getElem?_eq_some_iff.1 hx).1
  rw [mapTo, List.getElem?_append_right (by simp; omega)]
  simp [Nat.min_eq_left (Nat.le_of_lt hc), hx]
theorem mapTo_set {f : Cr → Cr} {l : List Cr} {c : Nat} {x : Cr} (hx : l[c]? = some x) : (mapTo f l c).set c (f x) = mapTo f l (c + 1) := by
  obtain ⟨hc, e⟩ := List.getElem?_eq_some_iff.1 hx
  rw [mapTo, mapTo, List.set_append_right _ _ (by simp; omega), List.take_add_one, hx, List.map_append, List.append_assoc]
  congr 1
  rw [List.drop_eq_getElem_cons hc, e]
  simp [Nat.min_eq_left (Nat.le_of_lt hc)]
theorem mapTo_zero (f : Cr → Cr) (l : List Cr) : mapTo f l 0 = l := by simp [mapTo]
theorem mapTo_all (f : Cr → Cr) (l : List Cr) : mapTo f l l.length = l.map f := by simp [mapTo]
def mapD (f : Cr → Cr) (d : Dia) : Dia := ⟨d.cross.map f, d.loops⟩
theorem mapD_len (f : Cr → Cr) (d : Dia) : (mapD f d).cross.length = d.cross.length := by simp [mapD]
/-- The crossings of a diagram that the call owns. -/
def ownD (g : Option Addr × Nat) (d : Dia) : HL := HL.own 62 5 (.slice g.1 d.cross.length g.2) d.cross.length (d.cross.flatMap encCr)
abbrev OKB (g : Option Addr × Nat) (n : Nat) : Prop := 0 < n → g.1 = some (vaddr (.slice g.1 n g.2))
theorem wf_of_sound {d : Dia} (h : SoundP d) : (∀ x ∈ d.cross, x.Wf) ∧ In64 d.loops ∧ d.cross.length ≤ 9223372036854775807 := by
  have h0 := h.1
  refine ⟨fun x hx => ?_, ⟨by have := h.2.1; omega, by have := h.2.2.1; omega⟩, by omega⟩
  have hs := (h.2.2.2.1 x hx).1
  have hp := (h.2.2.2.1 x hx).2
  have p0 : 0 ≤ x.a0 ∧ x.a0 < 2 * d.cross.length := hp 0 (by omega)
  have p1 : 0 ≤ x.a1 ∧ x.a1 < 2 * d.cross.length := hp 1 (by omega)
  have p2 : 0 ≤ x.a2 ∧ x.a2 < 2 * d.cross.length := hp 2 (by omega)
  have p3 : 0 ≤ x.a3 ∧ x.a3 < 2 * d.cross.length := hp 3 (by omega)
  exact ⟨⟨by omega, by omega⟩, ⟨by omega, by omega⟩, ⟨by omega, by omega⟩, ⟨by omega, by omega⟩, ⟨by omega, by omega⟩⟩
theorem DiaAt.of_ownD {w : World} {g : Option Addr × Nat} {d : Dia} (hs : SoundP d) (ho : (ownD g d).holds w) : DiaAt w g.1 (vaddr (.slice g.1 d.cross.length g.2)) d := by
  have hw := wf_of_sound hs
  have ho' : w.ownsRow 0 62 5 (.slice g.1 d.cross.length g.2) d.cross.length (d.cross.flatMap encCr) := ho
  obtain ⟨b, c, e, hb⟩ := own_shape ho'
  cases e
  exact DiaAt.of_cells hb (own_all ho') hw.2.2 hw.1 hw.2.1
/-- The mirror image of a crossing; its reflection. -/
def mirCr (x : Cr) : Cr := if x.s = 1 then ⟨x.a3, x.a0, x.a1, x.a2, -1⟩ else ⟨x.a1, x.a2, x.a3, x.a0, 1⟩
def refCr (x : Cr) : Cr := ⟨x.a0, x.a3, x.a2, x.a1, -x.s⟩
theorem ownD_take (f : Cr → Cr) (d : Dia) (vb : Option Addr) (vc : Nat) : ownD (vb, vc) (mapD f d) = HL.own 62 5 (.slice vb d.cross.length vc) d.cross.length (((d.cross.take d.cross.length).map f).flatMap encCr) := by
  rw [ownD, mapD_len, List.take_length]; rfl
theorem arcs_of {x : Cr} {j : Nat} {u : Value} (h : [iv x.a0, iv x.a1, iv x.a2, iv x.a3][j]? = some u) : (encCr x)[j]? = some u := by
  match j, h with
  | 0, h => exact h
  | 1, h => exact h
  | 2, h => exact h
  | 3, h => exact h
  | (j + 4), h => simp at h
theorem cr_snoc {l : List Cr} {y : Cr} {vs : List Value} (h : vs = encCr y) : l.flatMap encCr ++ vs = (l ++ [y]).flatMap encCr := by
  subst h; rw [List.flatMap_append]; simp
theorem mir_neg {x : Cr} (h : x.s = -1) : [iv x.a1, iv x.a2, iv x.a3, iv x.a0, iv (-x.s)] = encCr (mirCr x) := by rw [mirCr, if_neg (by omega), h]; rfl
theorem mir_pos {x : Cr} (h : x.s = 1) : [iv x.a3, iv x.a0, iv x.a1, iv x.a2, iv (-x.s)] = encCr (mirCr x) := by rw [mirCr, if_pos h, h]; rfl
def mirD (d : Dia) : Dia := mapD mirCr d
def refD (d : Dia) : Dia := mapD refCr d
end Go.V
/- The proof layer, part l: strings. -/
namespace Go.V
open Go
section str
variable {C : Cx} {F : Fr} {L : List HL} {o : Oper}
theorem eqGuard_str (op : BinOp) (t : TypeId) (x y : Operand) (s u : ByteArray) : eqGuard op t x y (.string s) (.string u) = pure () := by
  cases op <;> rfl
theorem Still.cat {xt yt : TypeId} {x y : Operand} {s u : ByteArray} (ho : o.op = .binOp .add xt x y yt) (hx : F.ev x = some (.string s)) (hy : F.ev y = some (.string u)) (hl : s.size + u.size ≤ 9223372036854775807) : Still C o F L (.string (s ++ u)) :=
  ⟨fun c h => (by rw [ho] at h; cases h), fun a w ok => by
    have h : ¬ (((s.size + u.size : Nat) : Int) > IntKind.i64.max) := by simp [IntKind.max, IntKind.bits, IntKind.signed]; omega
    simp only [execOp, ho, ok.fr.ev hx, ok.fr.ev hy, eqGuard_str]
    simp [binOp, Op.stringOp]; omega⟩
theorem Still.eqlStr {xt yt : TypeId} {x y : Operand} {s u : ByteArray} (ho : o.op = .binOp .eql xt x y yt) (hx : F.ev x = some (.string s)) (hy : F.ev y = some (.string u)) : Still C o F L (.bool (s.toList == u.toList)) :=
  ⟨fun c h => (by rw [ho] at h; cases h), fun a w ok => by
    simp only [execOp, ho, ok.fr.ev hx, ok.fr.ev hy, eqGuard_str]
    simp [binOp, Op.stringOp]⟩
/-- A string that is known. -/
theorem Still.eqlStrT {xt yt : TypeId} {x y : Operand} {s u : ByteArray} (ho : o.op = .binOp .eql xt x y yt) (hx : F.ev x = some (.string s)) (hy : F.ev y = some (.string u)) (he : s = u) : Still C o F L (.bool true) := by
  have := Still.eqlStr (C := C) (L := L) ho hx hy
  rwa [he, beq_self_eq_true] at this
/-- 's[:i]'. -/
theorem Still.sliceTo {t e : TypeId} {x y : Operand} {base : Option Addr} {n cap i size : Nat} {k : IntKind} (ho : o.op = .slice t x none (some y) none) (hx : F.ev x = some (.slice base n cap)) (hy : F.ev y = some (.int k (i : Int))) (ht : C.P.underlying t = some (.slice e)) (hz : ∀ w, (sizeOf e).run C.P w = .ok size w)
    (hi : i ≤ cap) : Still C o F L (.slice base i cap) :=
  ⟨fun c h => (by rw [ho] at h; cases h), fun a w ok => by
    have e0 : ∀ A : Addr, A.add 0 = A := fun A => by simp [Addr.add]
    simp only [execOp, ho, ok.fr.ev hx, Option.map, ok.fr.ev hy]
    by_cases h0 : cap = 0
    · obtain rfl : i = 0 := by omega
      cases base <;> simp [Instr.sliceAt, Instr.slice, run_underlying ht, Instr.sliceBounds, Instr.sliceBound, asIntOf, hz, e0, h0]
    · cases base <;> simp [Instr.sliceAt, Instr.slice, run_underlying ht, Instr.sliceBounds, Instr.sliceBound, asIntOf, hz, hi, e0]⟩
end str
end Go.V
/- Diagrams as data, part i: texts. -/
namespace Go.V
open Go
def numS (n : Int) : ByteArray := ⟨(Lib.decDigits n.toNat).toArray⟩
theorem decDigits_len {u : Nat} (h : u < 100) : (Lib.decDigits u).length ≤ 2 := by
  rw [Lib.decDigits]
  split
  · simp
  · rw [Lib.decDigits, dif_pos (by omega)]; simp
theorem numS_size {n : Int} (h0 : 0 ≤ n) (h : n < 100) : (numS n).size ≤ 2 := by
  have := decDigits_len (u := n.toNat) (by omega)
  simpa [numS, ByteArray.size] using this
def sgnS (x : Cr) : ByteArray := if x.s < 0 then ⟨#[45]⟩ else ⟨#[43]⟩
def crTo (x : Cr) : Nat → ByteArray
  | 0 => sgnS x
  | p + 1 => crTo x p ++ (⟨#[32]⟩ ++ numS (x.arc p))
/-- Small numbers. -/
def SmallCr (x : Cr) : Prop := ∀ p, p < 4 → 0 ≤ x.arc p ∧ x.arc p < 100
theorem sgnS_size (x : Cr) : (sgnS x).size = 1 := by rw [sgnS]; split <;> rfl
theorem crTo_size {x : Cr} (h : SmallCr x) : ∀ p, p ≤ 4 → (crTo x p).size ≤ 1 + 3 * p
  | 0, _ => by rw [crTo, sgnS_size]; omega
  | p + 1, hp => by
    have h1 := crTo_size h p (by omega)
    have h2 := numS_size (h p (by omega)).1 (h p (by omega)).2
    rw [crTo, ByteArray.size_append, ByteArray.size_append, show (⟨#[32]⟩ : ByteArray).size = 1 from rfl]; omega
def crS (x : Cr) : ByteArray := crTo x 4
def semiS : ByteArray := ⟨#[59, 32]⟩
def barS : ByteArray := ⟨#[32, 124, 32]⟩
def joinS (xs : List ByteArray) : ByteArray := ⟨(Lib.join (xs.map (·.data.toList)) semiS.data.toList).toArray⟩
def textOf (d : Dia) : ByteArray := if d.cross.length = 0 then numS d.loops else joinS (d.cross.map crS) ++ barS ++ numS d.loops
def strs (l : List ByteArray) : List Value := l.map Value.string
theorem strs_snoc (l : List ByteArray) (s : ByteArray) : strs l ++ [.string s] = strs (l ++ [s]) := by simp [strs]
theorem lens_le {k : Nat} : ∀ {l : List ByteArray}, (∀ s ∈ l, s.size ≤ k) → Lib.lens (l.map (·.data.toList)) ≤ k * l.length
  | [], _ => Nat.zero_le _
  | s :: r, h => by
    have h1 := lens_le (l := r) (fun x hx => h x (List.mem_cons_of_mem _ hx))
    have h2 := h s (List.mem_cons_self ..)
    have h3 : s.data.toList.length = s.size := Array.length_toList
    simp only [Lib.lens, List.map_cons, List.sum_cons, List.length_cons, h3] at h1 ⊢
    rw [Nat.mul_add]; omega
theorem join_len {k : Nat} {l : List ByteArray} (h : ∀ s ∈ l, s.size ≤ k) : (Lib.join (l.map (·.data.toList)) semiS.data.toList).length ≤ (k + 2) * l.length := by
  cases l with
  | nil => exact Nat.zero_le _
  | cons s r =>
    have h1 := lens_le h
    rw [List.map_cons] at h1 ⊢
    rw [Lib.join_length]
    have : semiS.data.toList.length = 2 := rfl
    rw [this]
    simp only [List.length_map, List.length_cons] at h1 ⊢
    rw [Nat.add_mul]; omega
theorem joinS_size {k : Nat} {l : List ByteArray} (h : ∀ s ∈ l, s.size ≤ k) : (joinS l).size ≤ (k + 2) * l.length := by
  have := join_len h
  simpa [joinS, ByteArray.size] using this
theorem crS_take {d : Dia} (h : ∀ x ∈ d.cross, SmallCr x) : ∀ s ∈ d.cross.map crS, s.size ≤ 13 := fun s hs => by
  obtain ⟨x, hx, rfl⟩ := List.mem_map.1 hs
  exact crTo_size (h x hx) 4 (by omega)
end Go.V
/- Diagrams as data, part j: the chapter's examples. -/
namespace Go.V
open Go
def hopfD : Dia := ⟨[⟨0, 3, 1, 2, 1⟩, ⟨3, 0, 2, 1, 1⟩], 0⟩
def flatD : Dia := ⟨[⟨0, 3, 1, 2, 1⟩, ⟨3, 1, 2, 0, -1⟩], 0⟩
def mirH : Dia := ⟨[⟨2, 0, 3, 1, -1⟩, ⟨1, 3, 0, 2, -1⟩], 0⟩
theorem hopf_sound : SoundP hopfD := by unfold SoundP; decide +kernel
theorem flat_sound : SoundP flatD := by unfold SoundP; decide +kernel
theorem mirH_sound : SoundP mirH := by unfold SoundP; decide +kernel
theorem mir_hopf : mapD mirCr hopfD = mirH := by decide +kernel
theorem planar_of_conn {d : Dia} (h : ∀ c c', c < d.cross.length → c' < d.cross.length → Conn d c c') (hn : (regsOf d).length = d.cross.length + 2) : PlanarP d := fun c hc => by
  have h1 : pieceOf d c = List.range d.cross.length := by
    rw [pieceOf, List.filter_eq_self]
    intro x hx
    exact connB_iff.2 (h c x hc (List.mem_range.1 hx))
  have h2 : cntReg d c = (regsOf d).length := by
    rw [cntReg, List.filter_eq_self.2]
    intro r hr
    obtain ⟨q, hq, e⟩ := regsTo_mem d _ r hr
    have := (regionOf_head (d := d) (q := q) (by omega)).1
    rw [e, this]
    exact connB_iff.2 (h c _ hc (by omega))
  rw [h1, h2, List.length_range, hn]
theorem conn_two {d : Dia} (hs : SoundP d) (hl : d.cross.length = 2) {p : Nat} (hp : p < 4) (h : otherQ d (4 * 0 + p) / 4 = 1) : ∀ c c', c < d.cross.length → c' < d.cross.length → Conn d c c' := by
  have h01 : Conn d 0 1 := h ▸ Conn.step .refl hp
  have h10 : Conn d 1 0 := h01.symm hs (by omega)
  intro c c' hc hc'
  have h1 : c = 0 ∨ c = 1 := by omega
  have h2 : c' = 0 ∨ c' = 1 := by omega
  rcases h1 with rfl | rfl <;> rcases h2 with rfl | rfl
  · exact .refl
  · exact h01
  · exact h10
  · exact .refl
theorem hopf_ok : checkI hopfD = 0 := checkI_ok.2 ⟨hopf_sound, planar_of_conn (conn_two hopf_sound rfl (p := 0) (by decide) (by decide +kernel)) (by decide +kernel)⟩
theorem mirH_ok : checkI mirH = 0 := checkI_ok.2 ⟨mirH_sound, planar_of_conn (conn_two mirH_sound rfl (p := 0) (by decide) (by decide +kernel)) (by decide +kernel)⟩
theorem flat_bad : checkI flatD = 221 := checkI_unplanar flat_sound fun h => by
  have h1 := h 0 (by decide)
  have h2 : cntReg flatD 0 ≤ (regsOf flatD).length := List.length_filter_le _ _
  have h3 : (regsOf flatD).length = 2 := by decide +kernel
  have h4 : 0 < (pieceOf flatD 0).length := List.length_pos_of_mem (piece_self (by decide))
  omega
theorem hopf_comp : compOf hopfD = [0, 0, 1, 1] := by decide +kernel
theorem hopf_count : compCount hopfD = 2 := by decide +kernel
theorem hopf_writhe : writhe hopfD = 2 := by decide +kernel
theorem hopf_linkR : linkR hopfD 0 1 = 1 := by decide +kernel
theorem hopf_linkE : linkE hopfD 0 1 = 0 := by decide +kernel
theorem hopf_regs : (regsOf hopfD).length = 4 := by decide +kernel
theorem mirH_small : ∀ x ∈ mirH.cross, SmallCr x := by unfold SmallCr; decide +kernel
theorem num_small {i : Nat} (h : i < 10) : numS (i : Int) = ⟨#[UInt8.ofNat (48 + i)]⟩ := by
  rw [numS, Int.toNat_natCast, Lib.decDigits, dif_pos h]
theorem mirH_text : textOf mirH = ⟨#[45, 32, 50, 32, 48, 32, 51, 32, 49, 59, 32, 45, 32, 49, 32, 51, 32, 48, 32, 50, 32, 124, 32, 48]⟩ := by
  have n0 := num_small (i := 0) (by decide)
  have n1 := num_small (i := 1) (by decide)
  have n2 := num_small (i := 2) (by decide)
  have n3 := num_small (i := 3) (by decide)
  simp only [textOf, mirH, List.length_cons, List.length_nil, List.map_cons, List.map_nil, crS, crTo, Cr.arc, sgnS]
  simp only [show ((0 : Nat) : Int) = 0 from rfl, show ((1 : Nat) : Int) = 1 from rfl, show ((2 : Nat) : Int) = 2 from rfl, show ((3 : Nat) : Int) = 3 from rfl] at n0 n1 n2 n3
  rw [n0, n1, n2, n3]
  decide +kernel
end Go.V
/- Plain laws, part k: how many components there are; each place lies in exactly one region. -/
namespace Go.V
open Go
/-! ### The greatest number is the count -/
theorem markC_keep {nx : Nat → Nat} {k : Int} {y : Int} (hy : 0 ≤ y) : ∀ (f : Nat) (out : List Int) (b i : Nat), out[i]? = some y → (markC nx k f out b)[i]? = some y
  | 0, _, _, _, h => h
  | f + 1, out, b, i, h => by
    rw [markC]
    split
    · rename_i hb
      refine markC_keep hy f _ _ i ?_
      rw [List.getElem?_set]
      split
      · rename_i e; subst e
        rw [List.getD_eq_getElem?_getD, h] at hb
        simp at hb; omega
      · exact h
    · exact h
theorem compTo_lt (nx : Nat → Nat) (N a : Nat) : ∀ x ∈ (compTo nx N a).1, x < (compTo nx N a).2 := by
  induction a with
  | zero => intro x hx; simp [compTo] at hx; simp [compTo]; omega
  | succ a ih =>
    rw [compTo_succ, compStep]
    split
    · exact ih
    · intro x hx
      have := markC_le (m := ((compTo nx N a).2 : Int)) (Int.le_refl _) N _ _ (fun x hx => by have := ih x hx; omega) x hx
      show x < (((compTo nx N a).2 + 1 : Nat) : Int)
      omega
theorem compTo_onto (nx : Nat → Nat) (N a : Nat) (ha : a ≤ N) : ∀ k : Nat, k < (compTo nx N a).2 → ∃ i : Nat, (compTo nx N a).1[i]? = some (k : Int) := by
  induction a with
  | zero => intro k hk; simp [compTo] at hk
  | succ a ih =>
    rw [compTo_succ, compStep]
    split
    · exact ih (by omega)
    · rename_i hn
      intro k hk
      have hk : k < (compTo nx N a).2 + 1 := hk
      rcases Nat.lt_or_ge k (compTo nx N a).2 with h | h
      · obtain ⟨i, hi⟩ := ih (by omega) k h
        exact ⟨i, markC_keep (by omega) N _ _ i hi⟩
      · obtain rfl : k = (compTo nx N a).2 := by omega
        refine ⟨a, ?_⟩
        obtain ⟨M, rfl⟩ : ∃ M, N = M + 1 := ⟨N - 1, by omega⟩
        show (markC nx _ (M + 1) _ a)[a]? = _
        rw [markC_go (by omega)]
        refine markC_keep (by omega) M _ _ a ?_
        rw [List.getElem?_set, if_pos rfl, if_pos (by rw [compTo_len]; omega)]
theorem maxOf_go (xs : List Int) : ∀ n : Int, (∀ x ∈ xs, x + 1 ≤ xs.foldl (fun n x => max n (x + 1)) n) ∧ n ≤ xs.foldl (fun n x => max n (x + 1)) n := by
  induction xs with
  | nil => intro n; exact ⟨fun x hx => (by cases hx), Int.le_refl _⟩
  | cons y r ih =>
    intro n
    obtain ⟨h1, h2⟩ := ih (max n (y + 1))
    rw [List.foldl_cons]
    refine ⟨fun x hx => ?_, by omega⟩
    rcases List.mem_cons.1 hx with rfl | hx
    · omega
    · exact h1 x hx
theorem maxOf_count (d : Dia) : maxOf (compOf d) = compCount d := by
  have h1 := (maxTo_bound (xs := compOf d) (m := (compCount d : Int)) (by omega) (fun x hx => by have := compTo_lt _ _ _ x hx; rw [← compCount] at this; omega) (compOf d).length).2
  rw [maxTo, List.take_length] at h1
  have h2 := maxOf_go (compOf d) 0
  rw [← maxOf] at h2
  rcases Nat.eq_zero_or_pos (compCount d) with h | h
  · have := h2.2; omega
  · obtain ⟨i, hi⟩ := compTo_onto (nextN d) (2 * d.cross.length) (2 * d.cross.length) (Nat.le_refl _) (compCount d - 1) (by rw [← compCount]; omega)
    have := h2.1 _ (List.mem_of_getElem? hi)
    omega
/-! ### The regions part the places -/
theorem region_nodup {d : Dia} (h : SoundP d) {q : Nat} (hq : q < 4 * d.cross.length) : (regionOf d q).Nodup := by
  obtain ⟨⟨h0, h1, h2⟩, h3⟩ := h.orb hq
  rw [h3, List.nodup_iff_pairwise_ne, List.pairwise_map]
  refine List.Pairwise.imp_of_mem ?_ List.pairwise_lt_range
  intro i j hi hj hij e
  have hj := List.mem_range.1 hj
  have back : ∀ (a b : Nat), a ≤ b → iter (stepQ d) a q = iter (stepQ d) b q → iter (stepQ d) (b - a) q = q := by
    intro a
    induction a with
    | zero => intro b _ e; simpa [iter] using e.symm
    | succ a ih =>
      intro b hab e
      obtain ⟨b, rfl⟩ : ∃ c, b = c + 1 := ⟨b - 1, by omega⟩
      rw [iter_succ, iter_succ] at e
      have := h.step_inj (iter_lt (fun x hx => h.step_lt hx) a q hq) (iter_lt (fun x hx => h.step_lt hx) b q hq) e
      have := ih b (by omega) this
      rwa [show b + 1 - (a + 1) = b - a by omega]
  exact h2 (j - i) (by omega) (by omega) (back i j (by omega) e)
theorem mem_region {d : Dia} (h : SoundP d) {q y : Nat} (hq : q < 4 * d.cross.length) : y ∈ regionOf d q ↔ ∃ k, y = iter (stepQ d) k q := by
  obtain ⟨⟨h0, h1, h2⟩, h3⟩ := h.orb hq
  constructor
  · intro hy; rw [h3] at hy; obtain ⟨k, _, e⟩ := List.mem_map.1 hy; exact ⟨k, e.symm⟩
  · rintro ⟨k, rfl⟩
    induction k with
    | zero => rw [h3]; exact List.mem_map.2 ⟨0, List.mem_range.2 h0, rfl⟩
    | succ k ih =>
      rw [h3] at ih ⊢
      obtain ⟨m, hm, e⟩ := List.mem_map.1 ih
      have hm := List.mem_range.1 hm
      rw [iter_succ, ← e, ← iter_succ (stepQ d) m q]
      rcases Nat.lt_or_ge (m + 1) (regionOf d q).length with h4 | h4
      · exact List.mem_map.2 ⟨m + 1, List.mem_range.2 h4, rfl⟩
      · have e2 : m + 1 = (regionOf d q).length := by omega
        exact List.mem_map.2 ⟨0, List.mem_range.2 h0, by rw [e2, h1]; rfl⟩
structure RegOk (d : Dia) (Q : Nat) : Prop where
  nodup : (regsTo d Q).flatten.Nodup
  lt : ∀ x ∈ (regsTo d Q).flatten, x < 4 * d.cross.length
  back : ∀ x, x < 4 * d.cross.length → stepQ d x ∈ (regsTo d Q).flatten → x ∈ (regsTo d Q).flatten
  all : ∀ q, q < Q → q ∈ (regsTo d Q).flatten
theorem mem_flat {d : Dia} {Q x : Nat} : x ∈ (regsTo d Q).flatten ↔ (regsTo d Q).any (fun r => r.contains x) = true := by
  rw [List.any_eq_true, List.mem_flatten]
  exact ⟨fun ⟨r, h1, h2⟩ => ⟨r, h1, List.contains_iff_mem.2 h2⟩, fun ⟨r, h1, h2⟩ => ⟨r, h1, List.contains_iff_mem.1 h2⟩⟩
theorem regOk {d : Dia} (h : SoundP d) : ∀ Q, Q ≤ 4 * d.cross.length → RegOk d Q := by
  intro Q
  induction Q with
  | zero => intro _; exact ⟨by simp [regsTo], by simp [regsTo], by simp [regsTo], fun q hq => by omega⟩
  | succ Q ih =>
    intro hQ
    have r := ih (by omega)
    by_cases hin : (regsTo d Q).any (fun r => r.contains Q) = true
    · have e : regsTo d (Q + 1) = regsTo d Q := by rw [regsTo_succ, regStep, if_pos hin]
      refine ⟨e ▸ r.nodup, e ▸ r.lt, e ▸ r.back, fun q hq => ?_⟩
      rw [e]
      rcases Nat.lt_or_ge q Q with h1 | h1
      · exact r.all q h1
      · obtain rfl : q = Q := by omega
        exact mem_flat.2 hin
    · have e : regsTo d (Q + 1) = regsTo d Q ++ [regionOf d Q] := by rw [regsTo_succ, regStep, if_neg hin]
      have hnot : Q ∉ (regsTo d Q).flatten := fun hm => hin (mem_flat.1 hm)
      have hdis : ∀ k, iter (stepQ d) k Q ∉ (regsTo d Q).flatten := by
        intro k
        induction k with
        | zero => exact hnot
        | succ k ih2 => intro hm; rw [iter_succ] at hm; exact ih2 (r.back _ (iter_lt (fun x hx => h.step_lt hx) k Q (by omega)) hm)
      have hfl : (regsTo d (Q + 1)).flatten = (regsTo d Q).flatten ++ regionOf d Q := by rw [e]; simp
      refine ⟨?_, fun x hx => ?_, fun x hx hm => ?_, fun q hq => ?_⟩
      · rw [hfl, List.nodup_append]
        refine ⟨r.nodup, region_nodup h (by omega), fun a ha b hb e2 => ?_⟩
        subst e2
        obtain ⟨k, rfl⟩ := (mem_region h (by omega)).1 hb
        exact hdis k ha
      · rw [hfl] at hx
        rcases List.mem_append.1 hx with hx | hx
        · exact r.lt x hx
        · obtain ⟨k, rfl⟩ := (mem_region h (by omega)).1 hx
          exact iter_lt (fun x hx => h.step_lt hx) k Q (by omega)
      · rw [hfl] at hm ⊢
        rcases List.mem_append.1 hm with hm | hm
        · exact List.mem_append.2 (.inl (r.back x hx hm))
        · refine List.mem_append.2 (.inr ?_)
          obtain ⟨k, hk⟩ := (mem_region h (by omega)).1 hm
          have ho := (h.orb (q := Q) (by omega)).1
          -- x is the place ahead of its step
          cases k with
          | zero =>
            have : stepQ d x = stepQ d (iter (stepQ d) ((regionOf d Q).length - 1) Q) := by
              rw [← iter_succ (stepQ d) _ Q, show (regionOf d Q).length - 1 + 1 = (regionOf d Q).length by have := ho.1; omega, ho.2.1]; exact hk
            have hx2 := h.step_inj hx (iter_lt (fun x hx => h.step_lt hx) _ Q (by omega)) this
            exact (mem_region h (by omega)).2 ⟨_, hx2⟩
          | succ k =>
            rw [iter_succ] at hk
            exact (mem_region h (by omega)).2 ⟨k, h.step_inj hx (iter_lt (fun x hx => h.step_lt hx) k Q (by omega)) hk⟩
      · rw [hfl]
        rcases Nat.lt_or_ge q Q with h1 | h1
        · exact List.mem_append.2 (.inl (r.all q h1))
        · obtain rfl : q = Q := by omega
          exact List.mem_append.2 (.inr ((mem_region h (by omega)).2 ⟨0, rfl⟩))
theorem regs_flat_len {d : Dia} (h : SoundP d) : (regsOf d).flatten.length = 4 * d.cross.length := by
  have r := regOk h (4 * d.cross.length) (Nat.le_refl _)
  have h1 := List.Nodup.length_le_of_subset r.nodup (l₂ := List.range (4 * d.cross.length)) (fun x hx => List.mem_range.2 (r.lt x hx))
  have h2 := List.Nodup.length_le_of_subset (List.nodup_range (n := 4 * d.cross.length)) (l₂ := (regsTo d (4 * d.cross.length)).flatten) (fun x hx => r.all x (List.mem_range.1 hx))
  rw [List.length_range] at h1 h2
  show (regsTo d (4 * d.cross.length)).flatten.length = _
  omega
def lenTo (rs : List (Value × List Nat)) (i : Nat) : Nat := ((rs.take i).map fun a => a.2.length).sum
theorem lenTo_succ {rs : List (Value × List Nat)} {i : Nat} {a : Value × List Nat} (h : rs[i]? = some a) : lenTo rs (i + 1) = lenTo rs i + a.2.length := by
  simp only [lenTo, List.take_add_one, h, Option.toList_some, List.map_append, List.sum_append]; simp
theorem lenTo_all {d : Dia} (h : SoundP d) {rs : List (Value × List Nat)} (hr : rs.map Prod.snd = regsOf d) : lenTo rs rs.length = 4 * d.cross.length := by
  rw [← regs_flat_len h, lenTo, List.take_length, List.length_flatten, ← hr, List.map_map]; rfl
theorem lenTo_le {d : Dia} {rs : List (Value × List Nat)} (hr : ∀ a ∈ rs, a.2.length ≤ 4 * d.cross.length) : ∀ i, lenTo rs i ≤ 4 * d.cross.length * i := by
  intro i
  induction i with
  | zero => simp [lenTo]
  | succ i ih =>
    rcases Nat.lt_or_ge i rs.length with hi | hi
    · obtain ⟨a, ha⟩ := get_of_lt hi
      have := hr a (List.mem_of_getElem? ha)
      rw [lenTo_succ ha, Nat.mul_succ]; omega
    · have e : lenTo rs (i + 1) = lenTo rs i := by simp only [lenTo]; rw [List.take_of_length_le (by omega), List.take_of_length_le hi]
      rw [e, Nat.mul_succ]; omega
end Go.V
/- The proof layer, part m: a slot's value in other words, inside a region that draws. -/
namespace Go.V
open Go
theorem RunG.again {C : Cx} {ops : Array Oper} {T : Act → World → Prop} {π : Plan} {F : Fr} {L : List HL} {t : Nat} {v u : Value} (hv : F.get t = some v) (e : v = u) (h : RunG C ops T π ((t, u) :: F) L) : RunG C ops T π F L := fun a w ok => h a w (ok.again hv e)
/-- A nil slice is appended: nothing happens. -/
theorem run_append_nothing {P : Program} {w : World} {t ty e : TypeId} {i : TypeInfo} {size : Nat} (ht : P.underlying t = some (.slice e)) (hi : P.info? e = some i) {v : Value} {p : Option Addr} {n c : Nat} {xs : List Value} (hown : w.ownsRow 0 e size v n xs) :
    (Builtin.append_ #[t, t] ty #[v, .slice p 0 c]).run P w = .ok v w := by
  rcases hown.2 with ⟨rfl, rfl⟩ | ⟨g, cap, cur, rfl, _, _, hnc, _⟩
  · cases p <;> simp [Builtin.append_, run_underlying ht, sizeOf, typeInfo, hi, Builtin.lenOf, Builtin.firstCells, loadCells, loadCellsFrom]
  · cases p <;> simp [Builtin.append_, run_underlying ht, sizeOf, typeInfo, hi, Builtin.lenOf, Builtin.firstCells, hnc, storeCells, loadCells, loadCellsFrom]
theorem Still.appendNil {C : Cx} {F : Fr} {L : List HL} {o : Oper} {t e ty : TypeId} {x y : Operand} {i n k m c : Nat} {q : TypeInfo} {p : Option Addr} {v : Value} {xs : List Value} (ho : o.op = .call { callee := .builtin .append, args := #[x, y], argTypes := #[t, t] }) (hty : o.type = ty)
    (hx : F.ev x = some v) (hy : F.ev y = some (.slice p m c)) (hm : m = 0) (hi : L[i]? = some (HL.own e k v n xs)) (ht : C.P.underlying t = some (.slice e)) (hinf : C.P.info? e = some q) : Still C o F L v :=
  ⟨fun c h => (by rw [ho] at h; cases h), fun a w ok => by
    subst hm
    have hown : w.ownsRow 0 e k v n xs := ok.sym.at hi
    obtain ⟨d, op, ty', ps, af, g⟩ := o
    subst ho; subst hty
    rw [BigFrame.execOp_builtin, BigFrame.builtin_append]
    simp [ok.fr.ev hx, ok.fr.ev hy, run_append_nothing (P := C.P) ht hinf hown]⟩
/-- Something is appended to an empty slice without room: a new block is made. -/
theorem Grows.appendNew {C : Cx} {F : Fr} {L : List HL} {o : Oper} {t e ty : TypeId} {x y : Operand} {k m c bytes : Nat} {b : Addr} {z : Value} {news : List Value} {A : Addr} (ho : o.op = .call { callee := .builtin .append, args := #[x, y], argTypes := #[t, t] }) (hty : o.type = ty)
    (hx : F.ev x = some (.slice (some b) 0 0)) (hy : F.ev y = some (.slice (some A) m c)) (h0 : 0 < m) (ht : C.P.underlying t = some (.slice e))
    (hinf : (C.P.info? e).map (fun i => (i.zero, i.size, i.bytes)) = some (some z, k, bytes)) (hzs : z.cells.size = k)
    (hnews : ∀ w, Sym C.w0 C.S L w → Cells w A news) (hl : news.length = m * k) (hb : m * bytes ≤ 140737488355328) (hm : m ≤ 9223372036854775807) :
    Grows C o F L (fun v : Value => Shape v m) (fun v => v) (fun v => [HL.own e k v m news]) := fun a w ok next Q h => by
  obtain ⟨inf, hi0, hi1, hi2, hi3⟩ := info_parts hinf
  subst hi2; subst hi3
  have hr := run_append_grow (P := C.P) (w := w) t ty e inf z ht hi0 hi1 b 0 0 [] (by simp) (by simp) A m c news hl (fun j u hj => hnews w ok.sym j u hj) (by omega) (by omega) (growslice_fits (by omega) (by rw [Nat.zero_add]; exact hb))
  have hge := grownCap_ge w (0 + m) 0 e
  have hcm : grownCap w (0 + m) 0 e ≤ maxLen := grownCap_le_maxLen w (0 + m) 0 e (by show 0 + m ≤ 9223372036854775807; omega)
  have hs := ok.sym.drew.alloc (.cells ((([] : List Value)).toArray ++ news.toArray ++ Builtin.zeroCells z.cells (grownCap w (0 + m) 0 e - (0 + m))) e)
  refine wpIn_value (fun c h => (by rw [ho] at h; cases h)) (v := .slice (some ⟨w.heap.size, 0, none⟩) (0 + m) (grownCap w (0 + m) 0 e)) (w' := w.drew.alloc (.cells ((([] : List Value)).toArray ++ news.toArray ++ Builtin.zeroCells z.cells (grownCap w (0 + m) 0 e - (0 + m))) e)) ?_ (h (.slice (some ⟨w.heap.size, 0, none⟩) (0 + m) (grownCap w (0 + m) 0 e)) _ ?_ ((Old.drew Nil w).trans (Old.alloc Nil w.drew _)) (hs.weaken (fun hh => ?_) (fun b hb => ?_)))
  · obtain ⟨d, op, ty', ps, af, g⟩ := o
    subst ho; subst hty
    rw [BigFrame.execOp_builtin, BigFrame.builtin_append]
    simp [ok.fr.ev hx, ok.fr.ev hy, hr]
  · rw [Nat.zero_add]; exact ⟨_, _, rfl, fun _ => rfl⟩
  · refine ⟨hl, .inr ⟨w.heap.size, _, _, by rw [Nat.zero_add], Nat.zero_le _, hh, by omega, hcm, ?_, ?_⟩⟩
    · simp only [Array.size_append, List.size_toArray, size_zeroCells, hzs, List.length_nil, hl, Nat.zero_add, ← Nat.add_mul]
      have hge2 := hge
      rw [Nat.zero_add] at hge2
      congr 1
      omega
    · simp only [Array.toList_append, List.nil_append, ← hl]
      exact List.take_left
  · have e1 : some w.heap.size = some b := hb
    cases e1; rfl
end Go.V
/- The proof layer, part n: regions that draw their order, with stores into what they have just made: what looks is shown at the world in which the region begins; what makes and stores leaves that world as it is. -/
namespace Go.V
open Go
section drawB
variable {r : Option Nat} {P : Program} {ops : Array Oper} {md : Region.Mode}
def wpHeadB (r : Option Nat) (P : Program) (md : Region.Mode) (ops : Array Oper) (n : Nat) (B : World) (E : Array Bool → Act → World → Prop) : Nat → Array Bool → Act → World → Prop
  | 0, listed, a, w => E listed a w
  | f + 1, listed, a, w => Region.ready md ops listed ≠ [] ∧ ∀ i ∈ Region.ready md ops listed, i < n ∧ wpOpIn (FW r) 0 P ops NoQ i (fun a' w' => Old Nil B w' ∧ wpHeadB r P md ops n B E f (listed.setIfInBounds i true) a' w') a w
theorem wpAny_of_headB {n g : Nat} {B : World} {E : Array Bool → Act → World → Prop} {Q : Exit → Act → World → Prop} (hE : ∀ listed a w, E listed a w → wpAnyIn (FW r) 0 P md ops Q g listed a w) :
    ∀ (f : Nat) (listed : Array Bool) (a : Act) (w : World), wpHeadB r P md ops n B E f listed a w → wpAnyIn (FW r) 0 P md ops Q (f + g) listed a w
  | 0, listed, a, w, h => by rw [Nat.zero_add]; exact hE _ _ _ h
  | f + 1, listed, a, w, h => by
    rw [show f + 1 + g = (f + g) + 1 by omega]
    exact ⟨fun h0 => absurd h0 h.1, fun i hi => opIn_Q (wpOpIn_mono (fun a' w' h' => wpAny_of_headB hE f _ a' w' h'.2) (h.2 i hi).2)⟩
theorem Yields'.opInB {i : Nat} {o : Oper} {v : Value} {a : Act} {w B : World} {Q : Exit → Act → World → Prop} (hi : ops[i]? = some o) (hd : ∀ c, o.op ≠ .defer c) (h : Yields' P ops o v a B) (hB : Old Nil B w) {K : Act → World → Prop} (hk : K (a.put o.dst v) w) : wpOpIn (FW r) 0 P ops Q i K a w := by
  have h' : Yields' P ops o v a w := h.later hB
  exact h'.opIn hi hd hk
theorem wpHeadB_first {n i : Nat} {oi : Oper} {v : Value} {B : World} {E : Array Bool → Act → World → Prop} (hi : ops[i]? = some oi) (hsel : Region.noSelect ops = true) (hdef : noDefer ops = true)
    (hs : Region.sinkB md ops n = true) (hc : Region.chainB md ops n = true) (hn : n < ops.size) (hin : i < n)
    (hdone : ∀ listed a w, E listed a w → ∀ j ∈ Region.ready md ops listed, n ≤ j) :
    ∀ (f : Nat) (listed : Array Bool) (a : Act) (w : World), HeadInv md ops n listed →
      (∀ j oj, ops[j]? = some oj → j ≠ i → listed.getD j true = false → (∀ e ∈ oj.after, Region.binds md e = true → e.on ≠ i) → oi.apart ops oj = true) →
      i ∈ Region.ready md ops listed → Yields' P ops oi v a B → Old Nil B w →
      wpHeadB r P md ops n B E f (listed.setIfInBounds i true) (a.put oi.dst v) w → wpHeadB r P md ops n B E (f + 1) listed a w := by
  intro f
  induction f with
  | zero =>
    intro listed a w inv _ hr hy hB H
    have hun := (mem_ready.1 hr).1
    refine ⟨fun h => (by rw [h] at hr; cases hr), fun j hj => ?_⟩
    have hjn : j < n := by
      rcases Nat.lt_or_ge j n with h | h
      · exact h
      · exact absurd hj (tail_waits hs hc hn inv _ i rfl hin hun j h)
    refine ⟨hjn, ?_⟩
    by_cases hji : j = i
    · subst hji; exact hy.opInB hi (fun c => noDefer_spec hdef j oi c hi) hB ⟨hB, H⟩
    · have := hdone _ _ _ H j (ready_mono hj hji)
      omega
  | succ f ih =>
    intro listed a w inv hfree hr hy hB H
    have hun := (mem_ready.1 hr).1
    refine ⟨fun h => (by rw [h] at hr; cases hr), fun j hj => ?_⟩
    have hjn : j < n := by
      rcases Nat.lt_or_ge j n with h | h
      · exact h
      · exact absurd hj (tail_waits hs hc hn inv _ i rfl hin hun j h)
    refine ⟨hjn, ?_⟩
    by_cases hji : j = i
    · subst hji; exact hy.opInB hi (fun c => noDefer_spec hdef j oi c hi) hB ⟨hB, H⟩
    · have h1 := (H.2 j (ready_mono hj hji)).2
      obtain ⟨hjun, oj, hoj, hall⟩ := mem_ready.1 hj
      have hnot : ∀ e ∈ oj.after, Region.binds md e = true → e.on ≠ i := fun e he hb heq => by
        have h1 := hall e he hb
        rw [heq, getD_both hun] at h1
        cases h1
      have hap := hfree j oj hoj hji hjun hnot
      have h2 := opIn_put hoj hap (fun cs b => Region.noSelect_spec hsel j oj cs b hoj) (fun c => noDefer_spec hdef j oj c hoj) h1
      have hfree' : ∀ k ok, ops[k]? = some ok → k ≠ i → (listed.setIfInBounds j true).getD k true = false →
          (∀ e ∈ ok.after, Region.binds md e = true → e.on ≠ i) → oi.apart ops ok = true := fun k ok hk hki hun hno => by
        refine hfree k ok hk hki ?_ hno
        by_cases hjk : j = k
        · subst hjk; exact hjun
        · rw [getD_set_ne true hjk] at hun; exact hun
      refine wpOpIn_mono (fun a' w' h3 => ⟨h3.2.1, ?_⟩) h2
      refine ih (listed.setIfInBounds j true) a' w' (inv.set hj hjn) hfree' (ready_mono hr (Ne.symm hji)) (hy.but (fun cs b => Region.noSelect_spec hsel i oi cs b hi) h3.1 (Oper.apart_spec hap).2.2) h3.2.1 ?_
      rw [Array.setIfInBounds_comm _ _ hji]
      exact h3.2.2
def GoesOnB (r : Option Nat) (P : Program) (ops : Array Oper) (B : World) (T : Act → World → Prop) : Plan → Act → World → Prop
  | .done, a, w => T a w
  | .still i p, a, w => ∃ o v, ops[i]? = some o ∧ Yields' P ops o v a B ∧ GoesOnB r P ops B T p (a.put o.dst v) w
  | .one i p, a, w => wpOpIn (FW r) 0 P ops NoQ i (fun a' w' => Old Nil B w' ∧ GoesOnB r P ops B T p a' w') a w
  | .two i p j q, a, w => wpOpIn (FW r) 0 P ops NoQ i (fun a' w' => Old Nil B w' ∧ GoesOnB r P ops B T p a' w') a w ∧ wpOpIn (FW r) 0 P ops NoQ j (fun a' w' => Old Nil B w' ∧ GoesOnB r P ops B T q a' w') a w
  | .three i p j q k s, a, w => wpOpIn (FW r) 0 P ops NoQ i (fun a' w' => Old Nil B w' ∧ GoesOnB r P ops B T p a' w') a w ∧ wpOpIn (FW r) 0 P ops NoQ j (fun a' w' => Old Nil B w' ∧ GoesOnB r P ops B T q a' w') a w ∧ wpOpIn (FW r) 0 P ops NoQ k (fun a' w' => Old Nil B w' ∧ GoesOnB r P ops B T s a' w') a w
theorem wpHeadB_of_goes {n g : Nat} {B : World} {T : Act → World → Prop} (hsel : Region.noSelect ops = true) (hdef : noDefer ops = true) (hs : Region.sinkB md ops n = true) (hc : Region.chainB md ops n = true) (hn : n < ops.size) :
    ∀ (π : Plan) (listed : Array Bool) (a : Act) (w : World), HeadInv md ops n listed → lexG md ops n g π listed = true → Old Nil B w → GoesOnB r P ops B T π a w →
    wpHeadB r P md ops n B (fun listed' a' w' => Region.seqB md ops g n listed' = true ∧ T a' w') π.len listed a w
  | .done, listed, a, w, _, hB, _, h => ⟨hB, h⟩
  | .still k π, listed, a, w, inv, hB, hO, h => by
    simp only [lexG, Bool.and_eq_true] at hB
    obtain ⟨⟨⟨hr, hf⟩, hkn⟩, hB'⟩ := hB
    have hkn' : k < n := by simpa using hkn
    obtain ⟨o, v, ho, hy, hK⟩ := h
    have hr' : k ∈ Region.ready md ops listed := by simpa using hr
    exact wpHeadB_first ho hsel hdef hs hc hn hkn' (fun listed' a' w' hL => seqB_ready hL.1) π.len listed a w inv (Region.free_spec ho hf) hr' hy hO
      (wpHeadB_of_goes hsel hdef hs hc hn π _ _ _ (inv.set hr' hkn') hB' hO hK)
  | .one k π, listed, a, w, inv, hB, hO, h => by
    simp only [lexG, Bool.and_eq_true, decide_eq_true_eq] at hB
    obtain ⟨⟨hr, hkn⟩, hB'⟩ := hB
    have hkn' : k < n := by simpa using hkn
    refine ⟨by rw [hr]; simp, fun i hi => ?_⟩
    rw [hr] at hi
    have hik : i = k := by simpa using hi
    subst hik
    exact ⟨hkn', wpOpIn_mono (fun a' w' h3 => ⟨h3.1, wpHeadB_of_goes hsel hdef hs hc hn π _ _ _ (inv.set (by rw [hr]; simp) hkn') hB' h3.1 h3.2⟩) h⟩
  | .two k p l q, listed, a, w, inv, hB, hO, h => by
    simp only [lexG, Bool.and_eq_true, decide_eq_true_eq] at hB
    obtain ⟨⟨⟨⟨⟨hr, hkn⟩, hln⟩, hlen⟩, hB1⟩, hB2⟩ := hB
    have hlen' : p.len = q.len := Nat.eq_of_beq_eq_true hlen
    have hkn' : k < n := by simpa using hkn
    have hln' : l < n := by simpa using hln
    refine ⟨by rw [hr]; simp, fun i hi => ?_⟩
    rw [hr] at hi
    have hik : i = k ∨ i = l := by simpa using hi
    rcases hik with rfl | rfl
    · exact ⟨hkn', wpOpIn_mono (fun a' w' h3 => ⟨h3.1, wpHeadB_of_goes hsel hdef hs hc hn p _ _ _ (inv.set (by rw [hr]; simp) hkn') hB1 h3.1 h3.2⟩) h.1⟩
    · exact ⟨hln', wpOpIn_mono (fun a' w' h3 => ⟨h3.1, by
        show wpHeadB _ _ _ _ _ _ _ p.len _ _ _
        rw [hlen']; exact wpHeadB_of_goes hsel hdef hs hc hn q _ _ _ (inv.set (by rw [hr]; simp) hln') hB2 h3.1 h3.2⟩) h.2⟩
  | .three k p l q m s, listed, a, w, inv, hB, hO, h => by
    simp only [lexG, Bool.and_eq_true, decide_eq_true_eq] at hB
    obtain ⟨⟨⟨⟨⟨⟨⟨⟨hr, hkn⟩, hln⟩, hmn⟩, hlen⟩, hlen2⟩, hB1⟩, hB2⟩, hB3⟩ := hB
    have hlen' : p.len = q.len := Nat.eq_of_beq_eq_true hlen
    have hlen2' : p.len = s.len := Nat.eq_of_beq_eq_true hlen2
    have hkn' : k < n := by simpa using hkn
    have hln' : l < n := by simpa using hln
    have hmn' : m < n := by simpa using hmn
    refine ⟨by rw [hr]; simp, fun i hi => ?_⟩
    rw [hr] at hi
    have hik : i = k ∨ i = l ∨ i = m := by simpa using hi
    rcases hik with rfl | rfl | rfl
    · exact ⟨hkn', wpOpIn_mono (fun a' w' h3 => ⟨h3.1, wpHeadB_of_goes hsel hdef hs hc hn p _ _ _ (inv.set (by rw [hr]; simp) hkn') hB1 h3.1 h3.2⟩) h.1⟩
    · exact ⟨hln', wpOpIn_mono (fun a' w' h3 => ⟨h3.1, by
        show wpHeadB _ _ _ _ _ _ _ p.len _ _ _
        rw [hlen']; exact wpHeadB_of_goes hsel hdef hs hc hn q _ _ _ (inv.set (by rw [hr]; simp) hln') hB2 h3.1 h3.2⟩) h.2.1⟩
    · exact ⟨hmn', wpOpIn_mono (fun a' w' h3 => ⟨h3.1, by
        show wpHeadB _ _ _ _ _ _ _ p.len _ _ _
        rw [hlen2']; exact wpHeadB_of_goes hsel hdef hs hc hn s _ _ _ (inv.set (by rw [hr]; simp) hmn') hB3 h3.1 h3.2⟩) h.2.2⟩
theorem wpIn_drawB {id : Nat} {Q : Exit → Act → World → Prop} {a : Act} {w : World} {l : List Oper} (n : Nat) (π : Plan) (hm : P.follows .mixedOrders = true) (hB : drawB l.toArray n π = true)
    (h : GoesOnB r P l.toArray w.drew (fun a' w' => wpListIn (FW r) 0 P l.toArray Q (l.drop n) a' w') π a w.drew) : (Code.region id l.toArray true).wpIn (FW r) 0 P Q a w := by
  simp only [drawB, Bool.and_eq_true] at hB
  obtain ⟨⟨⟨⟨⟨⟨hsel, hdef⟩, hn⟩, hs⟩, hc⟩, hlen⟩, hlex⟩ := hB
  have hn' : n < l.length := by simpa using hn
  have hpl : π.len = n := Nat.eq_of_beq_eq_true hlen
  have hdl : (l.drop n).length = l.toArray.size - n := by simp
  have inv0 : HeadInv .any l.toArray n (Array.replicate l.toArray.size false) :=
    ⟨by simp, fun j oj _ hl => (by rw [getD_replicate_false] at hl; cases hl), fun t _ ht => getD_in (by simpa using ht) (getD_replicate_false _ _)⟩
  have H := wpHeadB_of_goes (r := r) (P := P) (md := .any) (g := l.toArray.size - n) hsel hdef hs hc (by simpa using hn') π _ a w.drew inv0 hlex (Old.refl _ _) h
  refine wpIn_region_any hm ?_
  have := wpAny_of_headB (Q := Q) (g := l.toArray.size - n) (fun listed a' w' hL => by
    have := wpAny_of_seq' (r := r) (P := P) (md := .any) (Q := Q) (l.drop n) n listed a' w' (fun j => by simp [List.getElem?_drop]) (by rw [hdl]; exact hL.1) hL.2
    rwa [hdl] at this) _ _ _ _ H
  rw [hpl, show n + (l.toArray.size - n) = l.toArray.size by simp; omega] at this
  exact this
end drawB
/-- The looking part of such a region: the world is the one in which it began. -/
def RunH (C : Cx) (ops : Array Oper) (T : Act → World → Prop) (π : Plan) (F : Fr) (L : List HL) : Prop := ∀ a w, Ok C F L a w → GoesOnB C.r C.P ops w T π a w
/-- The making part: the blocks ns are new since the region began. -/
def RunN (C : Cx) (ops : Array Oper) (T : Act → World → Prop) (ns : List Nat) (π : Plan) (F : Fr) (L : List HL) : Prop := ∀ a w B, Old Nil B w → (∀ b ∈ ns, B.heap.size ≤ b) → Ok C F L a w → GoesOnB C.r C.P ops B T π a w
section
variable {C : Cx} {Q : Exit → Act → World → Prop} {F : Fr} {L : List HL} {ops : Array Oper} {o : Oper} {T : Act → World → Prop} {π : Plan} {i : Nat} {ns : List Nat}
theorem RunC.drawH {id : Nat} {l : List Oper} (n : Nat) (π : Plan) (hm : C.P.follows .mixedOrders = true) (hB : drawB l.toArray n π = true)
    (h : RunH C l.toArray (fun a' w' => wpListIn (FW C.r) 0 C.P l.toArray Q (l.drop n) a' w') π F L) : RunC C (.region id l.toArray true) Q F L := fun a w ok => wpIn_drawB n π hm hB (h a w.drew ⟨ok.fr, ok.sym.drew⟩)
theorem RunH.still {d : Nat} {v : Value} (ho : ops[i]? = some o) (hw : wants ops F o = some true) (hd : o.dst = some d) (hn : Nat.blt d C.n = true) (hs : Still C o F L v) (h : RunH C ops T π ((d, v) :: F) L) : RunH C ops T (.still i π) F L := fun a w ok => by
  refine ⟨o, v, ho, .inl ⟨wants_ok ok hw, fun w' hold => hs.2 a w' ⟨ok.fr, ok.sym.grow0 hold⟩⟩, h _ w ?_⟩
  rw [hd]
  exact ⟨ok.fr.put (by simpa using hn) v, ok.sym⟩
theorem RunH.again {t : Nat} {v u : Value} (hv : F.get t = some v) (e : v = u) (h : RunH C ops T π ((t, u) :: F) L) : RunH C ops T π F L := fun a w ok => h a w (ok.again hv e)
theorem RunH.news (h : RunN C ops T [] π F L) : RunH C ops T π F L := fun a w ok => h a w w (Old.refl _ w) (fun _ h => by cases h) ok
theorem RunN.two {j : Nat} {p q : Plan} (h1 : RunN C ops T ns (.one i p) F L) (h2 : RunN C ops T ns (.one j q) F L) : RunN C ops T ns (.two i p j q) F L := fun a w B hO hn ok => ⟨h1 a w B hO hn ok, h2 a w B hO hn ok⟩
theorem RunN.three {j k : Nat} {p q s : Plan} (h1 : RunN C ops T ns (.one i p) F L) (h2 : RunN C ops T ns (.one j q) F L) (h3 : RunN C ops T ns (.one k s) F L) : RunN C ops T ns (.three i p j q k s) F L := fun a w B hO hn ok => ⟨h1 a w B hO hn ok, h2 a w B hO hn ok, h3 a w B hO hn ok⟩
theorem RunN.alloc {d : Nat} {t : TypeId} {z : Value} (ho : ops[i]? = some o) (hw : wants ops F o = some true) (hd : o.dst = some d) (hn : Nat.blt d C.n = true) (hop : o.op = .alloc t) (hz : ∀ w, (zeroValue t).run C.P w = .ok z w)
    (h : ∀ b, RunN C ops T (b :: ns) π ((d, .pointer (some ⟨b, 0, none⟩)) :: F) (HL.obj b (.cells z.cells t (0, 0)) :: L)) : RunN C ops T ns (.one i π) F L := fun a w B hO hns ok => by
  show wpOpIn _ _ _ _ _ _ _ _ _
  unfold wpOpIn
  simp only [ho, wants_ok ok hw, if_true]
  have hr : (execOp a.eval o).run C.P w = .ok (.value (.pointer (some ⟨w.heap.size, 0, none⟩))) (w.alloc (.cells z.cells t (0, 0))) := by simp [execOp, hop, Instr.alloc, hz, newVar, newRow]
  refine wpIn_value (fun c h => (by rw [hop] at h; cases h)) hr ?_
  have hO2 := hO.trans (Old.alloc Nil w (.cells z.cells t (0, 0)))
  refine ⟨hO2, h w.heap.size _ _ B hO2 (fun b hb => ?_) ?_⟩
  · rcases List.mem_cons.1 hb with rfl | hb
    · exact hO.size
    · exact hns b hb
  · rw [hd]
    exact ⟨ok.fr.put (by simpa using hn) _, ok.sym.alloc _⟩
theorem RunN.store {t : TypeId} {x y : Operand} {m b k n : Nat} {cs : Array Value} {e : TypeId} {v : Value} (ho : ops[i]? = some o) (hw : wants ops F o = some true) (hd : o.dst = none) (hop : o.op = .store t x y) (hx : F.ev x = some (.pointer (some ⟨b, k, none⟩))) (hy : F.ev y = some v)
    (hi : L[m]? = some (HL.obj b (.cells cs e (0, 0)))) (hz : ∀ w, (sizeOf t).run C.P w = .ok n w) (hn : v.cells.size = n) (hk : Nat.ble (k + n) cs.size = true) (h1 : v.cells.toList.all Value.oneCell' = true) (hb : b ∈ ns)
    (h : RunN C ops T ns π F (L.set m (HL.obj b (.cells (putAll cs k v.cells.toList) e (0, 0))))) : RunN C ops T ns (.one i π) F L := fun a w B hO hns ok => by
  show wpOpIn _ _ _ _ _ _ _ _ _
  unfold wpOpIn
  simp only [ho, wants_ok ok hw, if_true]
  obtain ⟨w', hr, hh, hold, hsz⟩ := run_storeCells_own (P := C.P) v.cells.toList 0 k cs w (ok.sym.at hi) (by have := Nat.le_of_ble_eq_true hk; simp [hn]; omega) (List.all_eq_true.1 h1)
  simp only [Nat.add_zero] at hh
  refine wpIn_skip' (fun c h => (by rw [hop] at h; cases h)) (w' := w') ?_ ?_
  · simp only [execOp, hop, ok.fr.ev hx, ok.fr.ev hy]
    simp [Instr.storeAt, Instr.sureAddr, storeVar, hn, hz, hr]
  · have hO2 : Old Nil B w' := ⟨hold.os.trans hO.os, hold.tape.trans hO.tape, hold.output.trans hO.output, Nat.le_trans hO.size hold.size, fun c hc hn' => (hold.block c (Nat.lt_of_lt_of_le hc hO.size) (fun e => by
      have e : c = b := e
      have := hns b hb
      omega)).trans (hO.block c hc hn')⟩
    refine ⟨hO2, h _ w' B hO2 hns ?_⟩
    rw [hd]
    exact ⟨ok.fr, ok.sym.turn hi (fun c hc => ⟨.inl hc, by have e : c = b := hc; subst e; rw [hsz]; exact ok.sym.lt hi⟩) hold hh⟩
theorem RunN.done {l : List Oper} (h : RunL C ops Q l F L) : RunN C ops (fun a' w' => wpListIn (FW C.r) 0 C.P ops Q l a' w') ns .done F L := fun a w _ _ _ ok => h a w ok
end
end Go.V
/- The proof layer, part o: panics, deferred calls, recovery; interface values. -/
namespace Go.V
open Go
/-! ### Panics -/
/-- The call ends in a panic with the value v; what was there is as it was. -/
def Dies (P : Program) (f : FuncId) (args : Array Value) (w : World) (v : Value) : Prop := Calls P f args w fun e w' => e = .panicked [{ v, recovered := false }] ∧ Sym w Nil [] w'
section panics
variable {C : Cx} {Q : Exit → Act → World → Prop} {F : Fr} {L : List HL} {ops : Array Oper} {o : Oper} {rest : List Oper}
theorem RunL.panic {x : Operand} {t : TypeId} {u : Value} (hw : wants ops F o = some true) (ho : o.op = .panic x) (hx : F.ev x = some (.iface t u)) (h : Ends C (.panic [{ v := .iface t u, recovered := false }]) Q F L) : RunL C ops Q (o :: rest) F L := fun a w ok => by
  unfold wpListIn
  rw [wants_ok ok hw, if_pos rfl]
  refine ⟨fun _ _ => trivial, ?_⟩
  rw [Oper.semAt_eq _ _ _ (fun c h => by rw [ho] at h; cases h)]
  have hr : (execOp a.eval o).run C.P w = .halt (.panic (.iface t u)) w := by
    simp only [execOp, ho, ok.fr.ev hx]
    simp [Instr.panic, goPanic]
  rw [hr]
  exact h a w ok
theorem eval_list {F : Fr} {a : Act} {w : World} {L : List HL} (ok : Ok C F L a w) {xs : Array Operand} {vs : Array Value} (hv : xs.toList.map F.ev = vs.toList.map some) : xs.map a.eval = vs := by
  apply Array.ext'
  rw [Array.toList_map]
  revert hv
  generalize xs.toList = l
  generalize vs.toList = m
  induction l generalizing m with
  | nil => intro h; cases m <;> simp at h ⊢
  | cons p l ih =>
    intro h
    cases m with
    | nil => simp at h
    | cons q m =>
      simp only [List.map_cons, List.cons.injEq] at h ⊢
      exact ⟨ok.fr.ev h.1, ih m h.2⟩
theorem RunL.dies {f : FuncId} {xs : Array Operand} {ts : Array TypeId} {vs : Array Value} {u : Value} (hw : wants ops F o = some true) (ho : o.op = .call { callee := .value (.func f), args := xs, argTypes := ts })
    (hv : xs.toList.map F.ev = vs.toList.map some) (hc : ∀ args w, (callFunc f args).run C.P w = .ok (.enter f args) w) (hfn : ∀ w, Sym C.w0 C.S L w → Dies C.P f vs w u) (h : Ends C (.panic [{ v := u, recovered := false }]) Q F L) : RunL C ops Q (o :: rest) F L := fun a w ok => by
  unfold wpListIn
  rw [wants_ok ok hw, if_pos rfl]
  refine ⟨fun _ _ => trivial, ?_⟩
  rw [Oper.semAt_eq _ _ _ (fun c h => by rw [ho] at h; cases h)]
  have e := eval_list ok hv
  have hrun : (execOp a.eval o).run C.P w = .ok (.enter f vs) w := by
    simp only [execOp, ho, resolve, e]
    simp [Act.eval, Deferred.ofValue, invoke, hc]
  rw [hrun, Oper.uponIn_enter]
  refine ⟨fun h => by simp [FW] at h, callsFW.2 ((hfn w ok.sym).mono ?_)⟩
  rintro en w' ⟨rfl, hs⟩
  exact h a w' ⟨ok.fr, ok.sym.grow0 hs.old⟩
theorem Ends.then_panic {K : Act → World → Prop} {ch : List PanicEntry} (h : Ends C (.panic ch) Q F L) : Ends C (.panic ch) (Exit.then K Q) F L := h
theorem Ends.block_panic {ch : List PanicEntry} {id : Nat} (h : Ends C (.panic ch) Q F L) : Ends C (.panic ch) (Exit.inBlock id Q) F L := h
/-- A function without deferred calls is left by a panic. -/
theorem Ends.die {fn : Func} {R : Ending → World → Prop} {ch : List PanicEntry} (hD : C.D = []) (h : ∀ w, Sym C.w0 C.S L w → R (.panicked ch) w) : Ends C (.panic ch) (bodyPost C.P fn R) F L := fun a w ok => ⟨by rw [ok.fr.defers, hD], h w ok.sym⟩
/-! ### Interface values -/
theorem Still.makeInterface {t : TypeId} {x : Operand} {v : Value} (ho : o.op = .makeInterface t x) (hx : F.ev x = some v) (hr : ∀ w, (Instr.makeInterface t v).run C.P w = .ok (.iface t v) w) : Still C o F L (.iface t v) :=
  ⟨fun c h => (by rw [ho] at h; cases h), fun a w ok => by
    simp only [execOp, ho, ok.fr.ev hx]
    simp [hr]⟩
end panics
end Go.V
/- The proof layer, part p: strings: bytes, conversions, parts, equality. -/
namespace Go.V
open Go
section str
variable {C : Cx} {F : Fr} {L : List HL} {o : Oper} {x y : Operand}
theorem Still.convInt {s d : TypeId} {q k : IntKind} {n m : Int} (ho : o.op = .convert s d x) (hx : F.ev x = some (.int q n)) (hs : (C.P.underlying s).isSome = true) (hd : C.P.underlying d = some (.int k)) (hw : k.wrap n = m) : Still C o F L (.int k m) :=
  ⟨fun c h => (by rw [ho] at h; cases h), fun a w ok => by
    have hi : C.P.intKind d = k := by simp [Program.intKind, hd]
    have := run_convert_int (P := C.P) w s d q n hs (by rw [hi]; exact hd)
    rw [hi, hw] at this
    simp only [execOp, ho, ok.fr.ev hx]
    simp [this]⟩
theorem Still.convBytes {s d e : TypeId} {A : Addr} {n cap : Nat} {l : List UInt8} (ho : o.op = .convert s d x) (hx : F.ev x = some (.slice (some A) n cap)) (hs : C.P.underlying s = some (.slice e)) (he : C.P.underlying e = some (.int .u8)) (hd : C.P.underlying d = some .string) (hl : l.length = n)
    (hc : ∀ w, Sym C.w0 C.S L w → Cells w A (l.map fun b => .int .u8 (b.toNat : Int))) : Still C o F L (.string ⟨l.toArray⟩) :=
  ⟨fun c h => (by rw [ho] at h; cases h), fun a w ok => by
    subst hl
    have := run_convert_bytes_back (P := C.P) w s d e A cap l hs he hd (fun j hj => hc w ok.sym j _ (by simp [hj]))
    simp only [execOp, ho, ok.fr.ev hx]
    simp [this]⟩
theorem Still.sliceStr {t : TypeId} {z : Operand} {s : ByteArray} {k k' : IntKind} {i j : Nat} (ho : o.op = .slice t x (some y) (some z) none) (hx : F.ev x = some (.string s)) (hy : F.ev y = some (.int k (i : Int))) (hz : F.ev z = some (.int k' (j : Int))) (ht : C.P.underlying t = some .string) (h1 : i ≤ j) (h2 : j ≤ s.size) : Still C o F L (.string (s.extract i j)) :=
  ⟨fun c h => (by rw [ho] at h; cases h), fun a w ok => by
    have hr := run_slice_string_if (P := C.P) (w := w) t s k k' (i : Int) (j : Int) ht
    rw [if_pos ⟨by omega, by omega⟩, if_pos ⟨by omega, by omega⟩] at hr
    simp only [execOp, ho, Option.map, ok.fr.ev hx, ok.fr.ev hy, ok.fr.ev hz]
    rw [show ((i : Int).toNat) = i by omega, show ((j : Int).toNat) = j by omega] at hr
    simp [run_sliceAt_string (P := C.P) w t _ _ _ _ ht, hr]⟩
theorem str_beq (s u : ByteArray) : (s.toList == u.toList) = decide (s = u) := by
  by_cases h : s = u
  · subst h; simp
  · rw [decide_eq_false h]
    have : s.toList ≠ u.toList := fun e => h (by
      rw [ByteArray.toList_eq, ByteArray.toList_eq] at e
      obtain ⟨⟨s⟩⟩ := s
      obtain ⟨⟨u⟩⟩ := u
      simp only at e
      subst e; rfl)
    simpa using this
theorem Still.eqlStrD {xt yt : TypeId} {s u : ByteArray} (ho : o.op = .binOp .eql xt x y yt) (hx : F.ev x = some (.string s)) (hy : F.ev y = some (.string u)) : Still C o F L (.bool (decide (s = u))) := by
  have := Still.eqlStr (C := C) (L := L) ho hx hy
  rwa [str_beq] at this
theorem Still.neqStrD {xt yt : TypeId} {s u : ByteArray} (ho : o.op = .binOp .neq xt x y yt) (hx : F.ev x = some (.string s)) (hy : F.ev y = some (.string u)) : Still C o F L (.bool (decide (s ≠ u))) :=
  ⟨fun c h => (by rw [ho] at h; cases h), fun a w ok => by
    simp only [execOp, ho, ok.fr.ev hx, ok.fr.ev hy, eqGuard_str]
    simp [binOp, Op.stringOp]
    exact str_beq s u⟩
end str
end Go.V
/- Numbers as text. -/
namespace Go.V
open Go
theorem numS_small {n : Int} (h0 : 0 ≤ n) (h : n < 10) : numS n = ⟨#[UInt8.ofNat (48 + n.toNat)]⟩ := by
  rw [numS, Lib.decDigits_one (by omega)]
theorem ba_append (l m : List UInt8) : (⟨l.toArray⟩ : ByteArray) ++ ⟨m.toArray⟩ = ⟨(l ++ m).toArray⟩ := by
  apply ByteArray.ext
  simp
theorem numS_step {n : Int} (h : 10 ≤ n) : numS n = numS (n / 10) ++ ⟨#[UInt8.ofNat (48 + (n % 10).toNat)]⟩ := by
  have e1 : (n / 10).toNat = n.toNat / 10 := by omega
  have e2 : (n % 10).toNat = n.toNat % 10 := by omega
  rw [numS, Lib.decDigits, dif_neg (by omega), numS, e1, e2]
  exact (ba_append _ [_]).symm
theorem decDigits_le (u : Nat) : (Lib.decDigits u).length ≤ u + 1 := by
  induction u using Nat.strongRecOn with
  | ind u ih =>
    rw [Lib.decDigits]
    split
    · simp
    · have := ih (u / 10) (by omega)
      simp only [List.length_append, List.length_singleton]; omega
theorem numS_le (n : Int) : (numS n).size ≤ n.toNat + 1 := by
  show (Lib.decDigits n.toNat).toArray.size ≤ _
  simpa using decDigits_le n.toNat
theorem byte_nat {k : Int} (h0 : 0 ≤ k) (h : k < 256) : ((UInt8.ofNat k.toNat).toNat : Int) = k := by
  have : (UInt8.ofNat k.toNat).toNat = k.toNat := by
    rw [UInt8.toNat_ofNat']; omega
  omega
theorem byte_cells {w : World} {A : Addr} {k : Int} (h0 : 0 ≤ k) (hk : k < 256) (h : Cells w A [.int .u8 k]) : Cells w A ([UInt8.ofNat k.toNat].map fun b => .int .u8 (b.toNat : Int)) := by
  simpa only [List.map_cons, List.map_nil, byte_nat h0 hk] using h
theorem wrap_u8 {k : Int} (h0 : 0 ≤ k) (hk : k < 256) : IntKind.u8.wrap k = k := by
  simp [IntKind.wrap, IntKind.bits, IntKind.signed]; omega
end Go.V
/- Texts of diagrams: what the reference reads (positions in a text). -/
namespace Go.V
open Go
def byteAt (t : ByteArray) (p : Nat) : Nat := (t.data.toList.getD p 0).toNat
def isDig (t : ByteArray) (p : Nat) : Bool := decide (p < t.size ∧ 48 ≤ byteAt t p ∧ byteAt t p ≤ 57)
/-- Digits from p on, at most f of them; n: what those before spell. -/
def runD (t : ByteArray) : Nat → Nat → Nat → Nat × Nat
  | 0, p, n => (p, n)
  | f + 1, p, n => if isDig t p = true then runD t f (p + 1) (10 * n + byteAt t p - 48) else (p, n)
def numP (t : ByteArray) (p : Nat) : Nat × Nat := runD t 5 p 0
def numOk (t : ByteArray) (p : Nat) : Bool := decide (¬ ((numP t p).1 = p) ∧ numS ((numP t p).2 : Nat) = t.extract p (numP t p).1 ∧ (numP t p).2 ≤ 1000)
def takesB (t : ByteArray) (p : Nat) (s : ByteArray) : Bool := decide (p + s.size ≤ t.size ∧ t.extract p (p + s.size) = s)
def takeP (t : ByteArray) (p : Nat) (s : ByteArray) : Nat := if takesB t p s = true then p + s.size else p
theorem byte_get {t : ByteArray} {p : Nat} (h : p < t.size) : t[p]? = some (UInt8.ofNat (byteAt t p)) := by
  have h1 : p < t.data.toList.length := by rw [Array.length_toList]; exact h
  have : t[p]? = t.data.toList[p]? := by
    rw [Array.getElem?_toList]
    show (if _ : p < t.size then some t[p] else none) = t.data[p]?
    rw [dif_pos h, Array.getElem?_eq_getElem (show p < t.data.size from h)]
    rfl
  rw [this, byteAt, List.getD_eq_getElem?_getD, List.getElem?_eq_getElem h1]
  simp
theorem byteAt_lt (t : ByteArray) (p : Nat) : byteAt t p < 256 := UInt8.toNat_lt _
theorem byteAt_nat (t : ByteArray) (p : Nat) : (UInt8.ofNat (byteAt t p)).toNat = byteAt t p := by simp [byteAt]
theorem isDig_true {t : ByteArray} {p : Nat} (h : isDig t p = true) : p < t.size ∧ 48 ≤ byteAt t p ∧ byteAt t p ≤ 57 := of_decide_eq_true h
theorem runD_go {t : ByteArray} {f p n : Nat} (h1 : p < t.size) (h2 : 48 ≤ byteAt t p) (h3 : byteAt t p ≤ 57) : runD t (f + 1) p n = runD t f (p + 1) (10 * n + byteAt t p - 48) := by
  rw [runD, if_pos (show isDig t p = true from decide_eq_true ⟨h1, h2, h3⟩)]
theorem runD_stop {t : ByteArray} {f p n : Nat} (h : ¬ (p < t.size ∧ 48 ≤ byteAt t p ∧ byteAt t p ≤ 57)) : runD t f p n = (p, n) := by
  cases f with
  | zero => rfl
  | succ f => rw [runD, if_neg (by rw [isDig, decide_eq_false h]; exact Bool.false_ne_true)]
theorem runD_bound (t : ByteArray) : ∀ (f p n : Nat), p ≤ t.size → p ≤ (runD t f p n).1 ∧ (runD t f p n).1 ≤ t.size ∧ (runD t f p n).1 ≤ p + f
  | 0, p, n, h => ⟨Nat.le_refl _, h, Nat.le_refl _⟩
  | f + 1, p, n, h => by
    rw [runD]
    split
    · rename_i hd
      have := runD_bound t f (p + 1) (10 * n + byteAt t p - 48) (isDig_true hd).1
      omega
    · exact ⟨Nat.le_refl _, h, by omega⟩
theorem runD_small (t : ByteArray) : ∀ (f p n k : Nat), n < 10 ^ k → (runD t f p n).2 < 10 ^ (k + f)
  | 0, p, n, k, h => h
  | f + 1, p, n, k, h => by
    rw [runD]
    split
    · rename_i hd
      have h1 := isDig_true hd
      have := runD_small t f (p + 1) (10 * n + byteAt t p - 48) (k + 1) (by rw [Nat.pow_succ]; omega)
      rwa [show k + (f + 1) = k + 1 + f by omega]
    · exact Nat.lt_of_lt_of_le h (Nat.pow_le_pow_right (by omega) (by omega))
theorem numP_bound {t : ByteArray} {p : Nat} (h : p ≤ t.size) : p ≤ (numP t p).1 ∧ (numP t p).1 ≤ t.size := ⟨(runD_bound t 5 p 0 h).1, (runD_bound t 5 p 0 h).2.1⟩
theorem numP_small (t : ByteArray) (p : Nat) : (numP t p).2 < 100000 := runD_small t 5 p 0 0 (by decide)
theorem numOk_f1 {t : ByteArray} {p q n : Nat} (he : numP t p = (q, n)) (h : q = p) : numOk t p = false := decide_eq_false (fun hh => hh.1 (by rw [he]; exact h))
theorem numOk_f2 {t : ByteArray} {p q n : Nat} (he : numP t p = (q, n)) (h : numS (n : Nat) ≠ t.extract p q) : numOk t p = false := decide_eq_false (fun hh => h (by have := hh.2.1; rwa [he] at this))
theorem numOk_n {t : ByteArray} {p q n : Nat} (he : numP t p = (q, n)) (h1 : q ≠ p) (h2 : ¬ numS (n : Nat) ≠ t.extract p q) : (!numOk t p) = decide ((1000 : Int) < (n : Int)) := by
  by_cases h : n ≤ 1000
  · rw [show numOk t p = true from decide_eq_true ⟨by rw [he]; exact h1, by rw [he]; exact Decidable.not_not.1 h2, by rw [he]; exact h⟩, decide_eq_false (by omega)]; rfl
  · rw [show numOk t p = false from decide_eq_false (fun hh => h (by have := hh.2.2; rwa [he] at this)), decide_eq_true (by omega)]; rfl
theorem takeP_le {t : ByteArray} {p : Nat} {s : ByteArray} (h : p ≤ t.size) : takeP t p s ≤ t.size := by
  rw [takeP]
  split
  · rename_i h1; exact (of_decide_eq_true h1).1
  · exact h
theorem takeP_ge (t : ByteArray) (p : Nat) (s : ByteArray) : p ≤ takeP t p s := by
  rw [takeP]; split <;> omega
/-! ### A crossing; the crossings -/
abbrev spS : ByteArray := ⟨#[32]⟩
abbrev plusS : ByteArray := ⟨#[43]⟩
abbrev minusS : ByteArray := ⟨#[45]⟩
structure Rd where
  p : Nat
  ok : Bool
  l : List Int
/-- One arc's number of a crossing. -/
def arcR (t : ByteArray) (s : Rd) : Rd :=
  let ok1 := s.ok && takesB t s.p spS
  let p1 := if s.ok then takeP t s.p spS else s.p
  ⟨(numP t p1).1, ok1 && numOk t p1, s.l ++ [((numP t p1).2 : Int)]⟩
def arcsR (t : ByteArray) (p : Nat) : Nat → Rd
  | 0 => ⟨p, true, []⟩
  | k + 1 => arcR t (arcsR t p k)
def cr4 (l : List Int) (s : Int) : Cr := ⟨l.getD 0 0, l.getD 1 0, l.getD 2 0, l.getD 3 0, s⟩
theorem arcR_t {t : ByteArray} {s : Rd} (h : s.ok = true) : arcR t s = ⟨(numP t (takeP t s.p spS)).1, takesB t s.p spS && numOk t (takeP t s.p spS), s.l ++ [((numP t (takeP t s.p spS)).2 : Int)]⟩ := by
  rw [arcR, h]; rfl
theorem arcR_f {t : ByteArray} {s : Rd} (h : s.ok = false) : arcR t s = ⟨(numP t s.p).1, false, s.l ++ [((numP t s.p).2 : Int)]⟩ := by
  rw [arcR, h]; rfl
theorem arcR_le {t : ByteArray} {s : Rd} (h : s.p ≤ t.size) : s.p ≤ (arcR t s).p ∧ (arcR t s).p ≤ t.size := by
  cases ho : s.ok
  · rw [arcR_f ho]; exact ⟨(numP_bound h).1, (numP_bound h).2⟩
  · rw [arcR_t ho]
    have h1 := takeP_ge t s.p spS
    have h2 := numP_bound (takeP_le (s := spS) h)
    exact ⟨Nat.le_trans h1 h2.1, h2.2⟩
theorem arcsR_le {t : ByteArray} {p : Nat} (h : p ≤ t.size) : ∀ k, p ≤ (arcsR t p k).p ∧ (arcsR t p k).p ≤ t.size
  | 0 => ⟨Nat.le_refl _, h⟩
  | k + 1 => ⟨Nat.le_trans (arcsR_le h k).1 (arcR_le (arcsR_le h k).2).1, (arcR_le (arcsR_le h k).2).2⟩
theorem arcR_l (t : ByteArray) (s : Rd) : ∃ n : Nat, n < 100000 ∧ (arcR t s).l = s.l ++ [(n : Int)] := by
  cases ho : s.ok
  · rw [arcR_f ho]; exact ⟨_, numP_small _ _, rfl⟩
  · rw [arcR_t ho]; exact ⟨_, numP_small _ _, rfl⟩
theorem arcsR_len (t : ByteArray) (p : Nat) : ∀ k, (arcsR t p k).l.length = k
  | 0 => rfl
  | k + 1 => by
    obtain ⟨n, _, h⟩ := arcR_l t (arcsR t p k)
    rw [arcsR, h, List.length_append, arcsR_len t p k]; rfl
theorem arcsR_small (t : ByteArray) (p : Nat) : ∀ k, ∀ x ∈ (arcsR t p k).l, 0 ≤ x ∧ x < 100000
  | 0, x, hx => by cases hx
  | k + 1, x, hx => by
    obtain ⟨n, hn, h⟩ := arcR_l t (arcsR t p k)
    rw [arcsR, h] at hx
    rcases List.mem_append.1 hx with h1 | h1
    · exact arcsR_small t p k x h1
    · obtain rfl := List.mem_singleton.1 h1; omega
structure Res where
  xs : List Cr
  p : Nat
  ok : Bool
def loopR (t : ByteArray) : Nat → List Cr → Nat → Res
  | 0, xs, p => ⟨xs, p, false⟩
  | f + 1, xs, p =>
    if takesB t p plusS = false ∧ takesB t p minusS = false then ⟨xs, p, decide (xs.length = 0)⟩
    else
      let s : Int := if takesB t p plusS = true then 1 else -1
      let q := arcsR t (p + 1) 4
      let ys := xs ++ [cr4 q.l s]
      if takesB t q.p semiS = true then (if q.ok = true then loopR t f ys (q.p + 2) else ⟨ys, q.p + 2, false⟩)
      else ⟨ys, if q.ok = true then takeP t q.p barS else q.p, q.ok && takesB t q.p barS⟩
theorem getD_small {l : List Int} (h : ∀ x ∈ l, 0 ≤ x ∧ x < 100000) (i : Nat) : 0 ≤ l.getD i 0 ∧ l.getD i 0 < 100000 := by
  rw [List.getD_eq_getElem?_getD]
  cases hi : l[i]? with
  | none => simp
  | some x => exact h x (List.mem_of_getElem? hi)
theorem cr4_wf {t : ByteArray} {p : Nat} {s : Int} (hs : s = 1 ∨ s = -1) : (cr4 (arcsR t p 4).l s).Wf := by
  have h := fun i => getD_small (arcsR_small t p 4) i
  have h0 := h 0; have h1 := h 1; have h2 := h 2; have h3 := h 3
  constructor <;> simp only [cr4, In64] <;> omega
theorem cr4_set {l : List Int} {k : Nat} (hl : l.length = k) (hk : k < 4) (s v : Int) :
    (#[iv (cr4 l s).a0, iv (cr4 l s).a1, iv (cr4 l s).a2, iv (cr4 l s).a3, iv (cr4 l s).s] : Array Value).setIfInBounds (0 + k * 1) (iv v) = #[iv (cr4 (l ++ [v]) s).a0, iv (cr4 (l ++ [v]) s).a1, iv (cr4 (l ++ [v]) s).a2, iv (cr4 (l ++ [v]) s).a3, iv (cr4 (l ++ [v]) s).s] := by
  subst hl
  match l, hk with
  | [], _ => rfl
  | [_], _ => rfl
  | [_, _], _ => rfl
  | [_, _, _], _ => rfl
  | _ :: _ :: _ :: _ :: _, hk => simp only [List.length_cons] at hk; omega
/-- What the reference reads. -/
def readR (t : ByteArray) : Option Dia :=
  let r := loopR t (t.size + 1) [] 0
  if r.ok = true ∧ numOk t r.p = true ∧ (numP t r.p).1 = t.size then some ⟨r.xs, ((numP t r.p).2 : Int)⟩ else none
def readB (t : ByteArray) : Bool := (loopR t (t.size + 1) [] 0).ok && numOk t (loopR t (t.size + 1) [] 0).p && decide ((numP t (loopR t (t.size + 1) [] 0).p).1 = t.size)
theorem readB_eq {t : ByteArray} {xs : List Cr} {p : Nat} {ok : Bool} (h : loopR t (t.size + 1) [] 0 = ⟨xs, p, ok⟩) : readB t = (ok && numOk t p && decide ((numP t p).1 = t.size)) := by
  rw [readB, h]
theorem readR_none {t : ByteArray} (h : readB t = false) : readR t = none := by
  rw [readR]
  exact if_neg (fun hh => by rw [readB, hh.1, hh.2.1, decide_eq_true hh.2.2] at h; cases h)
theorem readR_some {t : ByteArray} {xs : List Cr} {p : Nat} {ok : Bool} (h : loopR t (t.size + 1) [] 0 = ⟨xs, p, ok⟩) (hb : readB t = true) : readR t = some ⟨xs, ((numP t p).2 : Int)⟩ := by
  simp only [readB, Bool.and_eq_true, decide_eq_true_eq] at hb
  rw [readR]
  show (if (loopR t (t.size + 1) [] 0).ok = true ∧ numOk t (loopR t (t.size + 1) [] 0).p = true ∧ (numP t (loopR t (t.size + 1) [] 0).p).1 = t.size then _ else _) = _
  rw [if_pos ⟨hb.1.1, hb.1.2, hb.2⟩, h]
abbrev rdR (t : ByteArray) : Res := loopR t (t.size + 1) [] 0
def sgnOk (t : ByteArray) (p : Nat) (sg : Int) : Prop := ¬ (takesB t p plusS = false ∧ takesB t p minusS = false) ∧ sg = (if takesB t p plusS = true then 1 else -1)
theorem loopR_go {t : ByteArray} {f : Nat} {xs : List Cr} {p : Nat} {sg : Int} (h : sgnOk t p sg) : loopR t (f + 1) xs p = if takesB t (arcsR t (p + 1) 4).p semiS = true then (if (arcsR t (p + 1) 4).ok = true then loopR t f (xs ++ [cr4 (arcsR t (p + 1) 4).l sg]) ((arcsR t (p + 1) 4).p + 2) else ⟨xs ++ [cr4 (arcsR t (p + 1) 4).l sg], (arcsR t (p + 1) 4).p + 2, false⟩) else ⟨xs ++ [cr4 (arcsR t (p + 1) 4).l sg], if (arcsR t (p + 1) 4).ok = true then takeP t (arcsR t (p + 1) 4).p barS else (arcsR t (p + 1) 4).p, (arcsR t (p + 1) 4).ok && takesB t (arcsR t (p + 1) 4).p barS⟩ := by
  rw [loopR, if_neg h.1, h.2]
theorem loopR_end {t : ByteArray} {f : Nat} {xs : List Cr} {p : Nat} (h1 : takesB t p plusS = false) (h2 : takesB t p minusS = false) : loopR t (f + 1) xs p = ⟨xs, p, decide (xs.length = 0)⟩ := by
  rw [loopR, if_pos ⟨h1, h2⟩]
theorem takeP_1 {t : ByteArray} {p k : Nat} {s : ByteArray} (h : takesB t p s = true) (hk : s.size = k) : takeP t p s = p + k ∧ p + k ≤ t.size := by subst hk; exact ⟨if_pos h, (of_decide_eq_true h).1⟩
theorem takeP_f {t : ByteArray} {p : Nat} {s : ByteArray} (h : takesB t p s = false) : takeP t p s = p := if_neg (by rw [h]; exact Bool.false_ne_true)
theorem wf_snoc {xs : List Cr} {x : Cr} (h : ∀ y ∈ xs, y.Wf) (hx : x.Wf) : ∀ y ∈ xs ++ [x], y.Wf := fun y hy => by
  rcases List.mem_append.1 hy with h1 | h1
  · exact h y h1
  · obtain rfl := List.mem_singleton.1 h1; exact hx
theorem flat_snoc (xs : List Cr) (x : Cr) : xs.flatMap encCr ++ [iv x.a0, iv x.a1, iv x.a2, iv x.a3, iv x.s] = (xs ++ [x]).flatMap encCr := by simp [encCr]
/-- The reference's loop. -/
def PI (t : ByteArray) (xs : List Cr) (p : Nat) (ok : Bool) (f : Nat) : Prop :=
  (ok = true → loopR t f xs p = rdR t ∧ t.size < f + p) ∧ (ok = false → rdR t = ⟨xs, p, false⟩) ∧ p ≤ t.size ∧ (∀ x ∈ xs, x.Wf) ∧ xs.length ≤ p
theorem PI.start (t : ByteArray) : PI t [] 0 true (t.size + 1) := ⟨fun _ => ⟨rfl, by omega⟩, fun h => Bool.noConfusion h, by omega, fun x hx => absurd hx List.not_mem_nil, Nat.le_refl _⟩
theorem PI.fuel {t : ByteArray} {xs : List Cr} {p f : Nat} (h : PI t xs p true f) : 0 < f := by
  have h1 := (h.1 rfl).2
  have h2 := h.2.2.1
  omega
theorem PI.endR {t : ByteArray} {xs : List Cr} {p f : Nat} (h : PI t xs p true (f + 1)) (h1 : takesB t p plusS = false) (h2 : takesB t p minusS = false) : rdR t = ⟨xs, p, decide (xs.length = 0)⟩ := by
  rw [← (h.1 rfl).1, loopR_end h1 h2]
theorem PI.barR {t : ByteArray} {xs : List Cr} {p f : Nat} {sg : Int} (h : PI t xs p true (f + 1)) (hg : sgnOk t p sg) (h1 : takesB t (arcsR t (p + 1) 4).p semiS = false) : rdR t = ⟨xs ++ [cr4 (arcsR t (p + 1) 4).l sg], if (arcsR t (p + 1) 4).ok = true then takeP t (arcsR t (p + 1) 4).p barS else (arcsR t (p + 1) 4).p, (arcsR t (p + 1) 4).ok && takesB t (arcsR t (p + 1) 4).p barS⟩ := by
  rw [← (h.1 rfl).1, loopR_go hg, if_neg (by rw [h1]; exact Bool.false_ne_true)]
theorem PI.next {t : ByteArray} {xs : List Cr} {p f : Nat} {sg : Int} (h : PI t xs p true (f + 1)) (hg : sgnOk t p sg) (h1 : takesB t (arcsR t (p + 1) 4).p semiS = true) (hk : p + 1 ≤ (arcsR t (p + 1) 4).p ∧ (arcsR t (p + 1) 4).p ≤ t.size) (hs : sg = 1 ∨ sg = -1) :
    PI t (xs ++ [cr4 (arcsR t (p + 1) 4).l sg]) (takeP t (arcsR t (p + 1) 4).p semiS) (arcsR t (p + 1) 4).ok f := by
  have e := takeP_1 h1 (k := 2) rfl
  have h0 := h.1 rfl
  have hb := h.2.2.2.2
  rw [e.1]
  rw [loopR_go hg, if_pos h1] at h0
  refine ⟨fun ho => ?_, fun ho => ?_, e.2, wf_snoc h.2.2.2.1 (cr4_wf hs), by rw [List.length_append]; show xs.length + 1 ≤ _; omega⟩
  · rw [if_pos ho] at h0; exact ⟨h0.1, by omega⟩
  · rw [if_neg (by rw [ho]; exact Bool.false_ne_true)] at h0; exact h0.1.symm
theorem bnot_t {b : Bool} (h : (!b) = true) : b = false := by cases b <;> first | rfl | cases h
theorem bnot_f {b : Bool} (h : (!b) = false) : b = true := by cases b <;> first | rfl | cases h
theorem num_in64 (t : ByteArray) (p : Nat) : In64 (((numP t p).2 : Nat) : Int) := by have := numP_small t p; constructor <;> omega
theorem own_oneCell {w : World} {e k n : Nat} {v : Value} {xs : List Value} (h : w.ownsRow 0 e k v n xs) : v.oneCell' = true := by
  obtain ⟨b, c, hv, _⟩ := own_shape h
  rw [hv]; rfl
theorem dec_ne (a b : Nat) : decide ((a : Int) ≠ (b : Int)) = !decide (a = b) := by
  by_cases h : a = b
  · rw [decide_eq_true h, decide_eq_false (by omega)]; rfl
  · rw [decide_eq_false h, decide_eq_true (by omega)]; rfl
abbrev nilD : Dia := ⟨[], 0⟩
noncomputable def errR (t : ByteArray) : Int := if 200000 < t.size then 2 else match readR t with | none => 4 | some d => checkI d
noncomputable def resR (t : ByteArray) : Dia := if 200000 < t.size then nilD else match readR t with | none => nilD | some d => if checkI d = 0 then d else nilD
theorem errR_1 {t : ByteArray} (h : 200000 < t.size) : errR t = 2 ∧ resR t = nilD := by rw [errR, resR, if_pos h, if_pos h]; exact ⟨rfl, rfl⟩
theorem errR_2 {t : ByteArray} (h : ¬ 200000 < t.size) (hb : readB t = false) : errR t = 4 ∧ resR t = nilD := by rw [errR, resR, if_neg h, if_neg h, readR_none hb]; exact ⟨rfl, rfl⟩
theorem errR_3 {t : ByteArray} {d : Dia} (h : ¬ 200000 < t.size) (hb : readR t = some d) (hc : checkI d ≠ 0) : errR t = checkI d ∧ resR t = nilD := by
  rw [errR, resR, if_neg h, if_neg h, hb]; exact ⟨rfl, if_neg hc⟩
theorem errR_4 {t : ByteArray} {d : Dia} (h : ¬ 200000 < t.size) (hb : readR t = some d) (hc : checkI d = 0) : errR t = 0 ∧ resR t = d := by
  rw [errR, resR, if_neg h, if_neg h, hb]; exact ⟨hc, if_pos hc⟩
theorem DiaAt.of_ownW {w : World} {g : Option Addr × Nat} {d : Dia} (hw : ∀ x ∈ d.cross, x.Wf) (hl : In64 d.loops) (hn : d.cross.length ≤ 9223372036854775807) (ho : (ownD g d).holds w) : DiaAt w g.1 (vaddr (.slice g.1 d.cross.length g.2)) d := by
  have ho' : w.ownsRow 0 62 5 (.slice g.1 d.cross.length g.2) d.cross.length (d.cross.flatMap encCr) := ho
  obtain ⟨b, c, e, hb⟩ := own_shape ho'
  cases e
  exact DiaAt.of_cells hb (own_all ho') hn hw hl
theorem Still.indexStrB {C : Cx} {F : Fr} {L : List HL} {o : Oper} {t : TypeId} {x ix : Operand} {s : ByteArray} {k : IntKind} (i : Nat) (ho : o.op = .index t x ix) (hx : F.ev x = some (.string s)) (hi : F.ev ix = some (.int k (i : Int)))
    (ht : C.P.underlying t = some .string) (hb : i < s.size) : Still C o F L (.int .u8 (byteAt s i : Nat)) := by
  have := Still.indexStr (C := C) (L := L) ho hx hi ht (by omega) (by rw [show ((i : Int).toNat) = i by omega]; exact byte_get hb)
  rwa [byteAt_nat] at this
theorem wrap_i64 {k : Int} (h0 : -9223372036854775808 ≤ k) (hk : k < 9223372036854775808) : IntKind.i64.wrap k = k := by
  simp [IntKind.wrap, IntKind.bits, IntKind.signed]; omega
end Go.V
/- Contracts of functions of the reference, chapter 22. -/
namespace Go.Proofs
open Go Go.V
set_option maxRecDepth 20000
theorem ref_In (x : Cr) (p : Nat) (w : World) : Gives Tryz.prog 72 #[crV x, iv p] w Nil (fun _ : Unit => True) (fun _ => .bool (x.inn p)) (fun _ => []) := by
  refine fn_of_run (S := Nil) (args := [crV x, iv p]) (n := 25) (L := []) Tryz.func72 rfl Tryz.ntmps72 (Nat.le_of_ble_eq_true rfl) (Sym.nil _ _) ?_
  change RunC _ _ _ [(0, _), (1, _)] _
  refine RunC.seq ?_
  refine RunC.region ?_
  refine RunL.grows rfl rfl rfl (Grows.box rfl rfl) (fun b2 _ => ?_)
  refine RunL.still rfl rfl rfl (Still.assign rfl rfl) ?_
  refine RunL.nil ?_
  refine Ends.then ?_
  refine RunC.seq ?_
  refine RunC.region ?_
  refine RunL.still rfl rfl rfl (Still.move rfl rfl) ?_
  refine RunL.still rfl rfl rfl (Still.eql rfl rfl rfl) ?_
  refine RunL.still rfl rfl rfl (Still.move rfl rfl) ?_
  refine RunL.split (t := 7) rfl (fun h7 => ?_) (fun h7 => ?_)
  · have h7 := of_decide_eq_true h7
    refine RunL.off rfl rfl rfl ?_
    refine RunL.off rfl rfl rfl ?_
    refine RunL.off rfl rfl rfl ?_
    refine RunL.off rfl rfl rfl ?_
    refine RunL.off rfl rfl rfl ?_
    refine RunL.off rfl rfl rfl ?_
    refine RunL.off rfl rfl rfl ?_
    refine RunL.still rfl rfl rfl (Still.pickT rfl rfl rfl) ?_
    refine RunL.still rfl rfl rfl (Still.move rfl rfl) ?_
    refine RunL.off rfl rfl rfl ?_
    refine RunL.off rfl rfl rfl ?_
    refine RunL.off rfl rfl rfl ?_
    refine RunL.off rfl rfl rfl ?_
    refine RunL.off rfl rfl rfl ?_
    refine RunL.off rfl rfl rfl ?_
    refine RunL.off rfl rfl rfl ?_
    refine RunL.still rfl rfl rfl (Still.pickT rfl rfl rfl) ?_
    refine RunL.still rfl rfl rfl (Still.assign rfl rfl) ?_
    refine RunL.nil ?_
    refine Ends.then ?_
    refine RunC.ret ?_
    refine Ends.leave (.inl rfl) (fun _ _ ok => results1 Tryz.results72 (Holds.tmp rfl) ok) (fun w1 hs => ?_)
    exact Ret.intro () trivial (by first | exact congrArg Value.bool (decide_eq_true (by omega)).symm | exact congrArg Value.bool (decide_eq_false (by omega)).symm | exact congrArg Value.bool (decide_eq_decide.2 (by omega))) (HSub.nil _) hs
  · have h7 := of_decide_eq_false h7
    refine RunL.still rfl rfl rfl (Still.move rfl rfl) ?_
    refine RunL.still rfl rfl rfl (Still.eql rfl rfl rfl) ?_
    refine RunL.still rfl rfl rfl (Still.move rfl rfl) ?_
    refine RunL.split (t := 10) rfl (fun h10 => ?_) (fun h10 => ?_)
    · have h10 := of_decide_eq_true h10
      refine RunL.still rfl rfl rfl (Still.fieldAddrL (off := 0) (off' := 4) rfl rfl Tryz.underlying62 rfl Tryz.sizeOf3 rfl) ?_
      refine RunL.still rfl rfl rfl (Still.load rfl rfl Tryz.isAgg3 (fun _ hs => cell_nth (hs.at (i := 0) rfl) rfl)) ?_
      refine RunL.still rfl rfl rfl (Still.eql rfl rfl rfl) ?_
      refine RunL.still rfl rfl rfl (Still.pickT rfl rfl rfl) ?_
      refine RunL.still rfl rfl rfl (Still.pickF rfl rfl rfl) ?_
      refine RunL.still rfl rfl rfl (Still.move rfl rfl) ?_
      refine RunL.split (t := 16) rfl (fun h16 => ?_) (fun h16 => ?_)
      · have h16 := of_decide_eq_true h16
        refine RunL.off rfl rfl rfl ?_
        refine RunL.off rfl rfl rfl ?_
        refine RunL.off rfl rfl rfl ?_
        refine RunL.off rfl rfl rfl ?_
        refine RunL.off rfl rfl rfl ?_
        refine RunL.off rfl rfl rfl ?_
        refine RunL.off rfl rfl rfl ?_
        refine RunL.still rfl rfl rfl (Still.pickT rfl rfl rfl) ?_
        refine RunL.still rfl rfl rfl (Still.assign rfl rfl) ?_
        refine RunL.nil ?_
        refine Ends.then ?_
        refine RunC.ret ?_
        refine Ends.leave (.inl rfl) (fun _ _ ok => results1 Tryz.results72 (Holds.tmp rfl) ok) (fun w2 hs => ?_)
        exact Ret.intro () trivial (by first | exact congrArg Value.bool (decide_eq_true (by omega)).symm | exact congrArg Value.bool (decide_eq_false (by omega)).symm | exact congrArg Value.bool (decide_eq_decide.2 (by omega))) (HSub.nil _) hs
      · have h16 := of_decide_eq_false h16
        refine RunL.still rfl rfl rfl (Still.move rfl rfl) ?_
        refine RunL.still rfl rfl rfl (Still.eql rfl rfl rfl) ?_
        refine RunL.still rfl rfl rfl (Still.move rfl rfl) ?_
        refine RunL.split (t := 19) rfl (fun h19 => ?_) (fun h19 => ?_)
        · have h19 := of_decide_eq_true h19
          refine RunL.still rfl rfl rfl (Still.fieldAddrL (off := 0) (off' := 4) rfl rfl Tryz.underlying62 rfl Tryz.sizeOf3 rfl) ?_
          refine RunL.still rfl rfl rfl (Still.load rfl rfl Tryz.isAgg3 (fun _ hs => cell_nth (hs.at (i := 0) rfl) rfl)) ?_
          refine RunL.still rfl rfl rfl (Still.eql rfl rfl rfl) ?_
          refine RunL.still rfl rfl rfl (Still.pickT rfl rfl rfl) ?_
          refine RunL.still rfl rfl rfl (Still.pickF rfl rfl rfl) ?_
          refine RunL.still rfl rfl rfl (Still.assign rfl rfl) ?_
          refine RunL.nil ?_
          refine Ends.then ?_
          refine RunC.ret ?_
          refine Ends.leave (.inl rfl) (fun _ _ ok => results1 Tryz.results72 (Holds.tmp rfl) ok) (fun w3 hs => ?_)
          exact Ret.intro () trivial (by first | exact congrArg Value.bool (decide_eq_true (by omega)).symm | exact congrArg Value.bool (decide_eq_false (by omega)).symm | exact congrArg Value.bool (decide_eq_decide.2 (by omega))) (HSub.nil _) hs
        · have h19 := of_decide_eq_false h19
          refine RunL.off rfl rfl rfl ?_
          refine RunL.off rfl rfl rfl ?_
          refine RunL.off rfl rfl rfl ?_
          refine RunL.still rfl rfl rfl (Still.pickF rfl rfl rfl) ?_
          refine RunL.still rfl rfl rfl (Still.pickF rfl rfl rfl) ?_
          refine RunL.still rfl rfl rfl (Still.assign rfl rfl) ?_
          refine RunL.nil ?_
          refine Ends.then ?_
          refine RunC.ret ?_
          refine Ends.leave (.inl rfl) (fun _ _ ok => results1 Tryz.results72 (Holds.tmp rfl) ok) (fun w4 hs => ?_)
          exact Ret.intro () trivial (by first | exact congrArg Value.bool (decide_eq_true (by omega)).symm | exact congrArg Value.bool (decide_eq_false (by omega)).symm | exact congrArg Value.bool (decide_eq_decide.2 (by omega))) (HSub.nil _) hs
    · have h10 := of_decide_eq_false h10
      refine RunL.off rfl rfl rfl ?_
      refine RunL.off rfl rfl rfl ?_
      refine RunL.off rfl rfl rfl ?_
      refine RunL.still rfl rfl rfl (Still.pickF rfl rfl rfl) ?_
      refine RunL.still rfl rfl rfl (Still.pickF rfl rfl rfl) ?_
      refine RunL.still rfl rfl rfl (Still.move rfl rfl) ?_
      refine RunL.still rfl rfl rfl (Still.move rfl rfl) ?_
      refine RunL.still rfl rfl rfl (Still.eql rfl rfl rfl) ?_
      refine RunL.still rfl rfl rfl (Still.move rfl rfl) ?_
      refine RunL.split (t := 19) rfl (fun h19 => ?_) (fun h19 => ?_)
      · have h19 := of_decide_eq_true h19
        refine RunL.still rfl rfl rfl (Still.fieldAddrL (off := 0) (off' := 4) rfl rfl Tryz.underlying62 rfl Tryz.sizeOf3 rfl) ?_
        refine RunL.still rfl rfl rfl (Still.load rfl rfl Tryz.isAgg3 (fun _ hs => cell_nth (hs.at (i := 0) rfl) rfl)) ?_
        refine RunL.still rfl rfl rfl (Still.eql rfl rfl rfl) ?_
        refine RunL.still rfl rfl rfl (Still.pickT rfl rfl rfl) ?_
        refine RunL.still rfl rfl rfl (Still.pickF rfl rfl rfl) ?_
        refine RunL.still rfl rfl rfl (Still.assign rfl rfl) ?_
        refine RunL.nil ?_
        refine Ends.then ?_
        refine RunC.ret ?_
        refine Ends.leave (.inl rfl) (fun _ _ ok => results1 Tryz.results72 (Holds.tmp rfl) ok) (fun w5 hs => ?_)
        exact Ret.intro () trivial (by first | exact congrArg Value.bool (decide_eq_true (by omega)).symm | exact congrArg Value.bool (decide_eq_false (by omega)).symm | exact congrArg Value.bool (decide_eq_decide.2 (by omega))) (HSub.nil _) hs
      · have h19 := of_decide_eq_false h19
        refine RunL.off rfl rfl rfl ?_
        refine RunL.off rfl rfl rfl ?_
        refine RunL.off rfl rfl rfl ?_
        refine RunL.still rfl rfl rfl (Still.pickF rfl rfl rfl) ?_
        refine RunL.still rfl rfl rfl (Still.pickF rfl rfl rfl) ?_
        refine RunL.still rfl rfl rfl (Still.assign rfl rfl) ?_
        refine RunL.nil ?_
        refine Ends.then ?_
        refine RunC.ret ?_
        refine Ends.leave (.inl rfl) (fun _ _ ok => results1 Tryz.results72 (Holds.tmp rfl) ok) (fun w6 hs => ?_)
        exact Ret.intro () trivial (by first | exact congrArg Value.bool (decide_eq_true (by omega)).symm | exact congrArg Value.bool (decide_eq_false (by omega)).symm | exact congrArg Value.bool (decide_eq_decide.2 (by omega))) (HSub.nil _) hs

theorem ref_end (base : Option Addr) (A : Addr) (cap : Nat) (d : Dia) (a : Int) (inn : Bool) (w : World) (hd : DiaAt w base A d) : Gives Tryz.prog 123 #[diaV base cap d, iv a, .bool inn] w Nil (fun _ : Unit => True) (fun _ => endV (findEnd d a inn)) (fun _ => []) := by
  have hlen := hd.len
  refine fn_of_run (S := Nil) (args := [diaV base cap d, iv a, .bool inn]) (n := 45) (L := []) Tryz.func123 rfl Tryz.ntmps123 (Nat.le_of_ble_eq_true rfl) (Sym.nil _ _) ?_
  change RunC _ _ _ [(0, _), (1, _), (2, _)] _
  refine RunC.seq ?_
  refine RunC.region ?_
  refine RunL.grows rfl rfl rfl (Grows.box rfl rfl) (fun b3 _ => ?_)
  refine RunL.grows rfl rfl rfl (Grows.alloc rfl Tryz.zeroValue110) (fun b6 _ => ?_)
  refine RunL.nil ?_
  refine Ends.then ?_
  refine RunC.seq ?_
  refine RunC.seq ?_
  refine RunC.region ?_
  refine RunL.still rfl rfl rfl (Still.assign rfl rfl) ?_
  refine RunL.nil ?_
  refine Ends.then ?_
  refine RunC.block ?_
  refine RunC.loop2 (γ := Nat) (keep := [(1, _), (2, _), (3, _), (6, _)]) (hkeep := [_, _]) (fun c => c ≤ d.cross.length ∧ ∀ q, q < 4 * c → matchAt d a inn q = false) (fun c => d.cross.length - c) (fun c => [(7, iv c)]) (fun c => []) 0 ⟨by omega, fun q hq => by omega⟩ (Fr.Sub.cons rfl (Fr.Sub.nil _)) (Fr.Sub.cons rfl (Fr.Sub.cons rfl (Fr.Sub.cons rfl (Fr.Sub.cons rfl (Fr.Sub.nil _))))) (HSub.pick 0 rfl (HSub.pick 0 rfl (HSub.nil _))) ?_
  rintro c ⟨hc, hM⟩
  refine RunC.seq ?_
  refine RunC.seq ?_
  refine RunC.region ?_
  refine RunL.still rfl rfl rfl (Still.move rfl rfl) ?_
  refine RunL.still rfl rfl rfl (Still.fieldAddrL (off := 0) (off' := 0) rfl rfl Tryz.underlying24 rfl Tryz.sizeOf22 rfl) ?_
  refine RunL.still rfl rfl rfl (Still.load rfl rfl Tryz.isAgg22 (fun _ hs => cell_nth (hs.at (i := 1) rfl) rfl)) ?_
  refine RunL.still rfl rfl rfl (Still.lenSlice rfl rfl Tryz.underlying22) ?_
  refine RunL.still rfl rfl rfl (Still.lss rfl rfl rfl) ?_
  refine RunL.nil ?_
  refine Ends.then ?_
  refine RunC.cond rfl (fun h13 => ?_) (fun h13 => ?_)
  · have h13 := of_decide_eq_true h13
    obtain ⟨x, hx⟩ := get_of_lt (l := d.cross) (i := c) (by omega)
    refine RunC.skip ?_
    refine Ends.then ?_
    refine RunC.seq ?_
    refine RunC.block ?_
    refine RunC.seq ?_
    refine RunC.region ?_
    refine RunL.still rfl rfl rfl (Still.assign rfl rfl) ?_
    refine RunL.nil ?_
    refine Ends.then ?_
    refine RunC.block ?_
    refine RunC.loop2 (γ := Nat) (keep := [(1, _), (2, _), (3, _), (6, _), (7, _)]) (hkeep := [_, _]) (fun p => p ≤ 4 ∧ ∀ q, q < 4 * c + p → matchAt d a inn q = false) (fun p => 4 - p) (fun p => [(8, iv p)]) (fun p => []) 0 ⟨by omega, fun q hq => hM q (by omega)⟩ (Fr.Sub.cons rfl (Fr.Sub.nil _)) (Fr.Sub.cons rfl (Fr.Sub.cons rfl (Fr.Sub.cons rfl (Fr.Sub.cons rfl (Fr.Sub.cons rfl (Fr.Sub.nil _)))))) (HSub.pick 0 rfl (HSub.pick 0 rfl (HSub.nil _))) ?_
    rintro p ⟨hp, hM2⟩
    refine RunC.seq ?_
    refine RunC.seq ?_
    refine RunC.region ?_
    refine RunL.still rfl rfl rfl (Still.move rfl rfl) ?_
    refine RunL.still rfl rfl rfl (Still.lss rfl rfl rfl) ?_
    refine RunL.nil ?_
    refine Ends.then ?_
    refine RunC.cond rfl (fun h17 => ?_) (fun h17 => ?_)
    · have h17 := of_decide_eq_true h17
      have hp4 : p < 4 := by omega
      refine RunC.skip ?_
      refine Ends.then ?_
      refine RunC.seq ?_
      refine RunC.block ?_
      refine RunC.seq ?_
      refine RunC.region ?_
      refine RunL.still rfl rfl rfl (Still.fieldAddrL (off := 0) (off' := 0) rfl rfl Tryz.underlying24 rfl Tryz.sizeOf22 rfl) ?_
      refine RunL.still rfl rfl rfl (Still.load rfl rfl Tryz.isAgg22 (fun _ hs => cell_nth (hs.at (i := 1) rfl) rfl)) ?_
      refine RunL.still rfl rfl rfl (Still.move rfl rfl) ?_
      refine RunL.still rfl rfl rfl (Still.move rfl rfl) ?_
      refine RunL.still rfl rfl rfl (Still.indexSliceN rfl rfl rfl Tryz.underlying22 Tryz.sizeOf62 (hd.base (by omega)) (by omega)) ?_
      refine RunL.still rfl rfl rfl (Still.fieldAddrA (off := 0) rfl rfl Tryz.underlying62 rfl Tryz.sizeOf60 rfl) ?_
      refine RunL.still rfl rfl rfl (Still.indexArrN rfl rfl rfl Tryz.underlying60 Tryz.sizeOf3 (by omega)) ?_
      refine RunL.still rfl rfl rfl (Still.load rfl rfl Tryz.isAgg3 (fun _ hs => hs.base0 (hd.arc hx hp4))) ?_
      refine RunL.still rfl rfl rfl (Still.move rfl rfl) ?_
      refine RunL.still rfl rfl rfl (Still.eql rfl rfl rfl) ?_
      refine RunL.still rfl rfl rfl (Still.move rfl rfl) ?_
      refine RunL.split (t := 30) rfl (fun h30 => ?_) (fun h30 => ?_)
      · have h30 := of_decide_eq_true h30
        refine RunL.still rfl rfl rfl (Still.fieldAddrL (off := 0) (off' := 0) rfl rfl Tryz.underlying24 rfl Tryz.sizeOf22 rfl) ?_
        refine RunL.still rfl rfl rfl (Still.load rfl rfl Tryz.isAgg22 (fun _ hs => cell_nth (hs.at (i := 1) rfl) rfl)) ?_
        refine RunL.still rfl rfl rfl (Still.move rfl rfl) ?_
        refine RunL.still rfl rfl rfl (Still.indexSliceN rfl rfl rfl Tryz.underlying22 Tryz.sizeOf62 (hd.base (by omega)) (by omega)) ?_
        refine RunL.still rfl rfl rfl (Still.loads rfl rfl Tryz.isAgg62 Tryz.sizeOf62 (vs := encCr x) rfl (fun _ hs => Cells.base0 (hd.cross hx) hs)) ?_
        refine RunL.still rfl rfl rfl (Still.move rfl rfl) ?_
        refine RunL.grows rfl rfl rfl (Grows.call (vs := #[_, _]) rfl rfl Tryz.call72 (fun w hs => ref_In x p w)) (fun _ _ => ?_)
        refine RunL.still rfl rfl rfl (Still.move rfl rfl) ?_
        refine RunL.still rfl rfl rfl (Still.eqlB rfl rfl rfl Tryz.underlying4) ?_
        refine RunL.still rfl rfl rfl (Still.pickT rfl rfl rfl) ?_
        refine RunL.nil ?_
        refine Ends.then ?_
        refine RunC.cond rfl (fun h40 => ?_) (fun h40 => ?_)
        · skip
          refine RunC.seq ?_
          refine RunC.region ?_
          refine RunL.still rfl rfl rfl (Still.move rfl rfl) ?_
          refine RunL.still rfl rfl rfl (Still.move rfl rfl) ?_
          refine RunL.still rfl rfl rfl (Still.build_1_1 (fun x0_0 x1_0 => .agg #[x0_0, x1_0]) rfl rfl rfl (fun _ => by kernel_rfl)) ?_
          refine RunL.does0 rfl rfl (Does.store rfl rfl rfl (i := 0) rfl Tryz.sizeOf110 rfl (rfl) rfl) (fun _ _ => ?_)
          refine RunL.nil ?_
          refine Ends.then ?_
          refine RunC.ret ?_
          refine Ends.block_ret ?_
          refine Ends.then_ret ?_
          refine Ends.then_ret ?_
          refine Ends.block_ret ?_
          refine Ends.block_ret ?_
          refine Ends.then_ret ?_
          refine Ends.then_ret ?_
          refine Ends.block_ret ?_
          refine Ends.then_ret ?_
          refine Ends.leave (.inl rfl) (fun _ _ ok => results1 Tryz.results123 (Holds.cell rfl (fun _ hs => load_cells (vs := [_, _]) Tryz.isAgg110 Tryz.sizeOf110 rfl (cells_nth (hs.at (i := 0) rfl) ⟨rfl, ⟨rfl, trivial⟩⟩))) ok) (fun w1 hs => ?_)
          exact Ret.intro () trivial (by rw [findEnd, find_range_some (k := 4 * c + p) (by omega) (by rw [matchAt_eq hx hp4, decide_eq_true h30, h40]; rfl) hM2]; simp only [endV, endC, endP]; rw [show (4 * c + p) / 4 = c by omega, show (4 * c + p) % 4 = p by omega]) (HSub.nil _) hs
        · skip
          refine RunC.skip ?_
          refine Ends.block ?_
          refine Ends.then ?_
          refine RunC.region ?_
          refine RunL.still rfl rfl rfl (Still.move rfl rfl) ?_
          refine RunL.still rfl rfl rfl (Still.add rfl rfl rfl (fits64 (by omega) (by omega))) ?_
          refine RunL.still rfl rfl rfl (Still.assign rfl rfl) ?_
          refine RunL.nil ?_
          refine Ends.again (p + 1) ?_ ?_ (Fr.Sub.app ?_ ?_) ?_
          · exact ⟨by omega, lt_ext (k := 4 * c + p) hM2 (by rw [matchAt_eq hx hp4, h40, Bool.and_false])⟩
          · show _ < _; omega
          · exact Fr.Sub.cons rfl (Fr.Sub.nil _)
          · exact Fr.Sub.cons rfl (Fr.Sub.cons rfl (Fr.Sub.cons rfl (Fr.Sub.cons rfl (Fr.Sub.cons rfl (Fr.Sub.nil _)))))
          · exact HSub.pick 0 rfl (HSub.pick 0 rfl (HSub.nil _))
      · have h30 := of_decide_eq_false h30
        refine RunL.off rfl rfl rfl ?_
        refine RunL.off rfl rfl rfl ?_
        refine RunL.off rfl rfl rfl ?_
        refine RunL.off rfl rfl rfl ?_
        refine RunL.off rfl rfl rfl ?_
        refine RunL.off rfl rfl rfl ?_
        refine RunL.off rfl rfl rfl ?_
        refine RunL.off rfl rfl rfl ?_
        refine RunL.off rfl rfl rfl ?_
        refine RunL.still rfl rfl rfl (Still.pickF rfl rfl rfl) ?_
        refine RunL.nil ?_
        refine Ends.then ?_
        refine RunC.cond_false rfl ?_
        refine RunC.skip ?_
        refine Ends.block ?_
        refine Ends.then ?_
        refine RunC.region ?_
        refine RunL.still rfl rfl rfl (Still.move rfl rfl) ?_
        refine RunL.still rfl rfl rfl (Still.add rfl rfl rfl (fits64 (by omega) (by omega))) ?_
        refine RunL.still rfl rfl rfl (Still.assign rfl rfl) ?_
        refine RunL.nil ?_
        refine Ends.again (p + 1) ?_ ?_ (Fr.Sub.app ?_ ?_) ?_
        · exact ⟨by omega, lt_ext (k := 4 * c + p) hM2 (by rw [matchAt_eq hx hp4, decide_eq_false h30, Bool.false_and])⟩
        · show _ < _; omega
        · exact Fr.Sub.cons rfl (Fr.Sub.nil _)
        · exact Fr.Sub.cons rfl (Fr.Sub.cons rfl (Fr.Sub.cons rfl (Fr.Sub.cons rfl (Fr.Sub.cons rfl (Fr.Sub.nil _)))))
        · exact HSub.pick 0 rfl (HSub.pick 0 rfl (HSub.nil _))
    · have h17 := of_decide_eq_false h17
      refine RunC.exit ?_
      refine Ends.then_exit ?_
      refine Ends.then_exit ?_
      refine Ends.block_exit ?_
      refine Ends.block ?_
      refine Ends.then ?_
      refine RunC.region ?_
      refine RunL.still rfl rfl rfl (Still.move rfl rfl) ?_
      refine RunL.still rfl rfl rfl (Still.add rfl rfl rfl (fits64 (by omega) (by omega))) ?_
      refine RunL.still rfl rfl rfl (Still.assign rfl rfl) ?_
      refine RunL.nil ?_
      refine Ends.again (c + 1) ?_ ?_ (Fr.Sub.app ?_ ?_) ?_
      · exact ⟨by omega, fun q hq => hM2 q (by omega)⟩
      · show _ < _; omega
      · exact Fr.Sub.cons rfl (Fr.Sub.nil _)
      · exact Fr.Sub.cons rfl (Fr.Sub.cons rfl (Fr.Sub.cons rfl (Fr.Sub.cons rfl (Fr.Sub.nil _))))
      · exact HSub.pick 0 rfl (HSub.pick 0 rfl (HSub.nil _))
  · have h13 := of_decide_eq_false h13
    refine RunC.exit ?_
    refine Ends.then_exit ?_
    refine Ends.then_exit ?_
    refine Ends.block_exit ?_
    refine Ends.then ?_
    refine RunC.seq ?_
    refine RunC.region ?_
    refine RunL.still rfl rfl rfl (Still.build_1 (fun x0_0 => .agg #[x0_0, .int .i64 0]) rfl rfl (fun _ => by kernel_rfl)) ?_
    refine RunL.does0 rfl rfl (Does.store rfl rfl rfl (i := 0) rfl Tryz.sizeOf110 rfl (rfl) rfl) (fun _ _ => ?_)
    refine RunL.nil ?_
    refine Ends.then ?_
    refine RunC.ret ?_
    refine Ends.leave (.inl rfl) (fun _ _ ok => results1 Tryz.results123 (Holds.cell rfl (fun _ hs => load_cells (vs := [_, _]) Tryz.isAgg110 Tryz.sizeOf110 rfl (cells_nth (hs.at (i := 0) rfl) ⟨rfl, ⟨rfl, trivial⟩⟩))) ok) (fun w2 hs => ?_)
    exact Ret.intro () trivial (by rw [findEnd, find_range_none (fun q hq => hM q (by omega))]; rfl) (HSub.nil _) hs

theorem ref_End (base : Option Addr) (A : Addr) (cap : Nat) (d : Dia) (a : Int) (w : World) (hd : DiaAt w base A d) : Gives Tryz.prog 125 #[diaV base cap d, iv a] w Nil (fun _ : Unit => True) (fun _ => endV (findEnd d a true)) (fun _ => []) := by
  refine fn_of_run (S := Nil) (args := [diaV base cap d, iv a]) (n := 8) (L := []) Tryz.func125 rfl Tryz.ntmps125 (Nat.le_of_ble_eq_true rfl) (Sym.nil _ _) ?_
  change RunC _ _ _ [(0, _), (1, _)] _
  refine RunC.seq ?_
  refine RunC.region ?_
  refine RunL.grows rfl rfl rfl (Grows.box rfl rfl) (fun b2 _ => ?_)
  refine RunL.grows rfl rfl rfl (Grows.alloc rfl Tryz.zeroValue110) (fun b4 _ => ?_)
  refine RunL.nil ?_
  refine Ends.then ?_
  refine RunC.seq ?_
  refine RunC.region ?_
  refine RunL.still rfl rfl rfl (Still.loads rfl rfl Tryz.isAgg24 Tryz.sizeOf24 (vs := [_, _]) rfl (fun _ hs => cells_nth (hs.at (i := 1) rfl) ⟨rfl, ⟨rfl, trivial⟩⟩)) ?_
  refine RunL.still rfl rfl rfl (Still.move rfl rfl) ?_
  refine RunL.grows rfl rfl rfl (Grows.call (vs := #[_, _, _]) rfl rfl Tryz.call123 (fun w hs => ref_end base A cap d a true w (hd.sym hs))) (fun _ _ => ?_)
  refine RunL.does0 rfl rfl (Does.store rfl rfl rfl (i := 0) rfl Tryz.sizeOf110 rfl (rfl) rfl) (fun _ _ => ?_)
  refine RunL.nil ?_
  refine Ends.then ?_
  refine RunC.ret ?_
  refine Ends.leave (.inl rfl) (fun _ _ ok => results1 Tryz.results125 (Holds.cell rfl (fun _ hs => load_cells (vs := [_, _]) Tryz.isAgg110 Tryz.sizeOf110 rfl (cells_nth (hs.at (i := 0) rfl) ⟨rfl, ⟨rfl, trivial⟩⟩))) ok) (fun w1 hs => ?_)
  exact Ret.intro () trivial rfl (HSub.nil _) hs

theorem ref_Other (base : Option Addr) (A : Addr) (cap : Nat) (d : Dia) (c p : Nat) (x : Cr) (w : World) (hd : DiaAt w base A d) (hx : d.cross[c]? = some x) (hp : p < 4) : Gives Tryz.prog 88 #[diaV base cap d, .agg #[iv c, iv p]] w Nil (fun _ : Unit => True) (fun _ => endV (findEnd d (x.arc p) (!x.inn p))) (fun _ => []) := by
  have hc : c < d.cross.length := (List.getElem?_eq_some_iff.1 hx).1
  refine fn_of_run (S := Nil) (args := [diaV base cap d, .agg #[iv c, iv p]]) (n := 27) (L := []) Tryz.func88 rfl Tryz.ntmps88 (Nat.le_of_ble_eq_true rfl) (Sym.nil _ _) ?_
  change RunC _ _ _ [(0, _), (1, _)] _
  refine RunC.seq ?_
  refine RunC.region ?_
  refine RunL.grows rfl rfl rfl (Grows.box rfl rfl) (fun b2 _ => ?_)
  refine RunL.grows rfl rfl rfl (Grows.box rfl rfl) (fun b3 _ => ?_)
  refine RunL.grows rfl rfl rfl (Grows.alloc rfl Tryz.zeroValue110) (fun b4 _ => ?_)
  refine RunL.nil ?_
  refine Ends.then ?_
  refine RunC.seq ?_
  refine RunC.draw 21 (.still 0 (.still 1 (.still 2 (.still 3 (.still 4 (.still 5 (.still 6 (.still 7 (.still 8 (.still 9 (.still 10 (.still 11 (.still 12 (.still 13 (.still 14 (.still 15 (.still 16 (.still 17 (.still 18 (.one 19 (.still 20 .done))))))))))))))))))))) (by kernel_rfl) (by kernel_rfl) ?_
  refine RunG.still rfl rfl rfl rfl (Still.loads rfl rfl Tryz.isAgg24 Tryz.sizeOf24 (vs := [_, _]) rfl (fun _ hs => cells_nth (hs.at (i := 2) rfl) ⟨rfl, ⟨rfl, trivial⟩⟩)) ?_
  refine RunG.still rfl rfl rfl rfl (Still.fieldAddrL (off := 0) (off' := 0) rfl rfl Tryz.underlying24 rfl Tryz.sizeOf22 rfl) ?_
  refine RunG.still rfl rfl rfl rfl (Still.load rfl rfl Tryz.isAgg22 (fun _ hs => cell_nth (hs.at (i := 2) rfl) rfl)) ?_
  refine RunG.still rfl rfl rfl rfl (Still.fieldAddrL (off := 0) (off' := 0) rfl rfl Tryz.underlying110 rfl Tryz.sizeOf3 rfl) ?_
  refine RunG.still rfl rfl rfl rfl (Still.load rfl rfl Tryz.isAgg3 (fun _ hs => cell_nth (hs.at (i := 1) rfl) rfl)) ?_
  refine RunG.still rfl rfl rfl rfl (Still.fieldAddrL (off := 0) (off' := 1) rfl rfl Tryz.underlying110 rfl Tryz.sizeOf3 rfl) ?_
  refine RunG.still rfl rfl rfl rfl (Still.load rfl rfl Tryz.isAgg3 (fun _ hs => cell_nth (hs.at (i := 1) rfl) rfl)) ?_
  refine RunG.still rfl rfl rfl rfl (Still.indexSliceN rfl rfl rfl Tryz.underlying22 Tryz.sizeOf62 (hd.base (by omega)) (by omega)) ?_
  refine RunG.still rfl rfl rfl rfl (Still.fieldAddrA (off := 0) rfl rfl Tryz.underlying62 rfl Tryz.sizeOf60 rfl) ?_
  refine RunG.still rfl rfl rfl rfl (Still.indexArrN rfl rfl rfl Tryz.underlying60 Tryz.sizeOf3 (by omega)) ?_
  refine RunG.still rfl rfl rfl rfl (Still.load rfl rfl Tryz.isAgg3 (fun _ hs => hs.base0 (hd.arc hx hp))) ?_
  refine RunG.still rfl rfl rfl rfl (Still.fieldAddrL (off := 0) (off' := 0) rfl rfl Tryz.underlying24 rfl Tryz.sizeOf22 rfl) ?_
  refine RunG.still rfl rfl rfl rfl (Still.load rfl rfl Tryz.isAgg22 (fun _ hs => cell_nth (hs.at (i := 2) rfl) rfl)) ?_
  refine RunG.still rfl rfl rfl rfl (Still.fieldAddrL (off := 0) (off' := 0) rfl rfl Tryz.underlying110 rfl Tryz.sizeOf3 rfl) ?_
  refine RunG.still rfl rfl rfl rfl (Still.load rfl rfl Tryz.isAgg3 (fun _ hs => cell_nth (hs.at (i := 1) rfl) rfl)) ?_
  refine RunG.still rfl rfl rfl rfl (Still.indexSliceN rfl rfl rfl Tryz.underlying22 Tryz.sizeOf62 (hd.base (by omega)) (by omega)) ?_
  refine RunG.still rfl rfl rfl rfl (Still.loads rfl rfl Tryz.isAgg62 Tryz.sizeOf62 (vs := encCr x) rfl (fun _ hs => Cells.base0 (hd.cross hx) hs)) ?_
  refine RunG.still rfl rfl rfl rfl (Still.fieldAddrL (off := 0) (off' := 1) rfl rfl Tryz.underlying110 rfl Tryz.sizeOf3 rfl) ?_
  refine RunG.still rfl rfl rfl rfl (Still.load rfl rfl Tryz.isAgg3 (fun _ hs => cell_nth (hs.at (i := 1) rfl) rfl)) ?_
  refine RunG.grows rfl rfl rfl rfl (Grows.call (vs := #[_, _]) rfl rfl Tryz.call72 (fun w hs => ref_In x p w)) (fun _ _ => ?_)
  refine RunG.still rfl rfl rfl rfl (Still.not rfl rfl) ?_
  refine RunG.done ?_
  show RunL _ _ _ [_, _] _ _
  refine RunL.grows rfl rfl rfl (Grows.call (vs := #[_, _, _]) rfl rfl Tryz.call123 (fun w hs => ref_end base A cap d (x.arc p) (!x.inn p) w (hd.sym hs))) (fun _ _ => ?_)
  refine RunL.does0 rfl rfl (Does.store rfl rfl rfl (i := 0) rfl Tryz.sizeOf110 rfl (rfl) rfl) (fun _ _ => ?_)
  refine RunL.nil ?_
  refine Ends.then ?_
  refine RunC.ret ?_
  refine Ends.leave (.inl rfl) (fun _ _ ok => results1 Tryz.results88 (Holds.cell rfl (fun _ hs => load_cells (vs := [_, _]) Tryz.isAgg110 Tryz.sizeOf110 rfl (cells_nth (hs.at (i := 0) rfl) ⟨rfl, ⟨rfl, trivial⟩⟩))) ok) (fun w1 hs => ?_)
  exact Ret.intro () trivial rfl (HSub.nil _) hs

theorem ref_Next (base : Option Addr) (A : Addr) (cap : Nat) (d : Dia) (a : Int) (q : Nat) (w : World) (hd : DiaAt w base A d) (hq : findEnd d a true = some q) : Gives Tryz.prog 126 #[diaV base cap d, iv a] w Nil (fun _ : Unit => True) (fun _ => iv (nextA d a)) (fun _ => []) := by
  have hq1 := (findEnd_some hq).1
  have hx := crAt_get (d := d) (c := q / 4) (by omega)
  refine fn_of_run (S := Nil) (args := [diaV base cap d, iv a]) (n := 21) (L := []) Tryz.func126 rfl Tryz.ntmps126 (Nat.le_of_ble_eq_true rfl) (Sym.nil _ _) ?_
  change RunC _ _ _ [(0, _), (1, _)] _
  refine RunC.seq ?_
  refine RunC.region ?_
  refine RunL.grows rfl rfl rfl (Grows.box rfl rfl) (fun b2 _ => ?_)
  refine RunL.still rfl rfl rfl (Still.assign rfl rfl) ?_
  refine RunL.nil ?_
  refine Ends.then ?_
  refine RunC.seq ?_
  refine RunC.region ?_
  refine RunL.still rfl rfl rfl (Still.loads rfl rfl Tryz.isAgg24 Tryz.sizeOf24 (vs := [_, _]) rfl (fun _ hs => cells_nth (hs.at (i := 0) rfl) ⟨rfl, ⟨rfl, trivial⟩⟩)) ?_
  refine RunL.still rfl rfl rfl (Still.move rfl rfl) ?_
  refine RunL.grows rfl rfl rfl (Grows.call (vs := #[_, _]) rfl rfl Tryz.call125 (fun w hs => ref_End base A cap d a w (hd.sym hs))) (fun _ _ => ?_)
  have hC : endC (findEnd d a true) = ((q / 4 : Nat) : Int) := by rw [hq]; rfl
  have hP : endP (findEnd d a true) = ((q % 4 : Nat) : Int) := by rw [hq]; rfl
  have hP4 : 0 ≤ endP (findEnd d a true) ∧ endP (findEnd d a true) < 4 := by rw [hP]; omega
  refine RunL.grows rfl rfl rfl (Grows.alloc rfl Tryz.zeroValue110) (fun b5 _ => ?_)
  refine RunL.does0 rfl rfl (Does.store rfl rfl rfl (i := 0) rfl Tryz.sizeOf110 rfl (rfl) rfl) (fun _ _ => ?_)
  refine RunL.nil ?_
  refine Ends.then ?_
  refine RunC.seq ?_
  refine RunC.draw 12 (.still 0 (.still 1 (.still 2 (.still 3 (.still 4 (.still 5 (.still 6 (.still 7 (.still 8 (.still 9 (.still 10 (.still 11 .done)))))))))))) (by kernel_rfl) (by kernel_rfl) ?_
  refine RunG.still rfl rfl rfl rfl (Still.fieldAddrL (off := 0) (off' := 0) rfl rfl Tryz.underlying24 rfl Tryz.sizeOf22 rfl) ?_
  refine RunG.still rfl rfl rfl rfl (Still.load rfl rfl Tryz.isAgg22 (fun _ hs => cell_nth (hs.at (i := 1) rfl) rfl)) ?_
  refine RunG.still rfl rfl rfl rfl (Still.fieldAddrL (off := 0) (off' := 0) rfl rfl Tryz.underlying110 rfl Tryz.sizeOf3 rfl) ?_
  refine RunG.still rfl rfl rfl rfl (Still.load rfl rfl Tryz.isAgg3 (fun _ hs => cell_nth (hs.at (i := 0) rfl) rfl)) ?_
  refine RunG.still rfl rfl rfl rfl (Still.fieldAddrL (off := 0) (off' := 1) rfl rfl Tryz.underlying110 rfl Tryz.sizeOf3 rfl) ?_
  refine RunG.still rfl rfl rfl rfl (Still.load rfl rfl Tryz.isAgg3 (fun _ hs => cell_nth (hs.at (i := 0) rfl) rfl)) ?_
  refine RunG.still rfl rfl rfl rfl (Still.add rfl rfl rfl (fits64 (by omega) (by omega))) ?_
  refine RunG.still rfl rfl rfl rfl (Still.remP rfl rfl rfl (by omega) (by omega)) ?_
  refine RunG.still rfl rfl rfl rfl (Still.indexSliceE (q / 4) rfl rfl rfl Tryz.underlying22 Tryz.sizeOf62 (hd.base (by omega)) (hC) (by omega)) ?_
  refine RunG.still rfl rfl rfl rfl (Still.fieldAddrA (off := 0) rfl rfl Tryz.underlying62 rfl Tryz.sizeOf60 rfl) ?_
  refine RunG.still rfl rfl rfl rfl (Still.indexArrE ((q % 4 + 2) % 4) rfl rfl rfl Tryz.underlying60 Tryz.sizeOf3 (by rw [hP]; omega) (by omega)) ?_
  refine RunG.still rfl rfl rfl rfl (Still.load rfl rfl Tryz.isAgg3 (fun _ hs => hs.base0 (hd.arc hx (by omega)))) ?_
  refine RunG.done ?_
  show RunL _ _ _ [_] _ _
  refine RunL.still rfl rfl rfl (Still.assign rfl rfl) ?_
  refine RunL.nil ?_
  refine Ends.then ?_
  refine RunC.ret ?_
  refine Ends.leave (.inl rfl) (fun _ _ ok => results1 Tryz.results126 (Holds.tmp rfl) ok) (fun w1 hs => ?_)
  exact Ret.intro () trivial (by rw [nextA, hq]) (HSub.nil _) hs

theorem ref_Sound (base : Option Addr) (A : Addr) (cap : Nat) (d : Dia) (w : World) (hd : DiaAt w base A d) : Gives Tryz.prog 34 #[diaV base cap d] w Nil (fun _ : Unit => True) (fun _ => .bool (soundB d)) (fun _ => []) := by
  have hlen := hd.len
  refine fn_of_run (S := Nil) (args := [diaV base cap d]) (n := 109) (L := []) Tryz.func34 rfl Tryz.ntmps34 (Nat.le_of_ble_eq_true rfl) (Sym.nil _ _) ?_
  change RunC _ _ _ [(0, _)] _
  refine RunC.seq ?_
  refine RunC.region ?_
  refine RunL.grows rfl rfl rfl (Grows.box rfl rfl) (fun b1 _ => ?_)
  refine RunL.still rfl rfl rfl (Still.assign rfl rfl) ?_
  refine RunL.nil ?_
  refine Ends.then ?_
  refine RunC.seq ?_
  refine RunC.region ?_
  refine RunL.still rfl rfl rfl (Still.fieldAddrL (off := 0) (off' := 0) rfl rfl Tryz.underlying24 rfl Tryz.sizeOf22 rfl) ?_
  refine RunL.still rfl rfl rfl (Still.load rfl rfl Tryz.isAgg22 (fun _ hs => cell_nth (hs.at (i := 0) rfl) rfl)) ?_
  refine RunL.still rfl rfl rfl (Still.lenSlice rfl rfl Tryz.underlying22) ?_
  refine RunL.still rfl rfl rfl (Still.assign rfl rfl) ?_
  refine RunL.nil ?_
  refine Ends.then ?_
  refine RunC.seq ?_
  refine RunC.seq ?_
  refine RunC.meet1 (chg := [(24, .bool (decide (200 < d.cross.length ∨ d.loops < 0 ∨ 200 < d.loops)))]) (keep := [(1, _), (3, _)]) (hkeep := [_]) (Fr.Sub.cons rfl (Fr.Sub.cons rfl (Fr.Sub.nil _))) (HSub.pick 0 rfl (HSub.nil _)) ?_ ?_
  ·
    refine RunC.region ?_
    refine RunL.still rfl rfl rfl (Still.move rfl rfl) ?_
    refine RunL.still rfl rfl rfl (Still.gtr rfl rfl rfl) ?_
    refine RunL.still rfl rfl rfl (Still.move rfl rfl) ?_
    refine RunL.split (t := 15) rfl (fun h15 => ?_) (fun h15 => ?_)
    · have h15 := of_decide_eq_true h15
      refine RunL.off rfl rfl rfl ?_
      refine RunL.off rfl rfl rfl ?_
      refine RunL.off rfl rfl rfl ?_
      refine RunL.still rfl rfl rfl (Still.pickT rfl rfl rfl) ?_
      refine RunL.still rfl rfl rfl (Still.move rfl rfl) ?_
      refine RunL.off rfl rfl rfl ?_
      refine RunL.off rfl rfl rfl ?_
      refine RunL.off rfl rfl rfl ?_
      refine RunL.still rfl rfl rfl (Still.pickT rfl rfl rfl) ?_
      refine RunL.nil ?_
      exact Ends.meet1 (Fr.Sub.cons (by first | exact congrArg (fun b => some (Value.bool b)) (decide_eq_true (by omega)).symm | exact congrArg (fun b => some (Value.bool b)) (decide_eq_false (by omega)).symm | exact congrArg (fun b => some (Value.bool b)) (decide_eq_decide.2 (by omega))) (Fr.Sub.nil _)) (Fr.Sub.cons rfl (Fr.Sub.cons rfl (Fr.Sub.nil _))) (HSub.pick 0 rfl (HSub.nil _))
    · have h15 := of_decide_eq_false h15
      refine RunL.still rfl rfl rfl (Still.fieldAddrL (off := 0) (off' := 1) rfl rfl Tryz.underlying24 rfl Tryz.sizeOf3 rfl) ?_
      refine RunL.still rfl rfl rfl (Still.load rfl rfl Tryz.isAgg3 (fun _ hs => cell_nth (hs.at (i := 0) rfl) rfl)) ?_
      refine RunL.still rfl rfl rfl (Still.lss rfl rfl rfl) ?_
      refine RunL.still rfl rfl rfl (Still.pickF rfl rfl rfl) ?_
      refine RunL.still rfl rfl rfl (Still.move rfl rfl) ?_
      refine RunL.split (t := 20) rfl (fun h20 => ?_) (fun h20 => ?_)
      · have h20 := of_decide_eq_true h20
        refine RunL.off rfl rfl rfl ?_
        refine RunL.off rfl rfl rfl ?_
        refine RunL.off rfl rfl rfl ?_
        refine RunL.still rfl rfl rfl (Still.pickT rfl rfl rfl) ?_
        refine RunL.nil ?_
        exact Ends.meet1 (Fr.Sub.cons (by first | exact congrArg (fun b => some (Value.bool b)) (decide_eq_true (by omega)).symm | exact congrArg (fun b => some (Value.bool b)) (decide_eq_false (by omega)).symm | exact congrArg (fun b => some (Value.bool b)) (decide_eq_decide.2 (by omega))) (Fr.Sub.nil _)) (Fr.Sub.cons rfl (Fr.Sub.cons rfl (Fr.Sub.nil _))) (HSub.pick 0 rfl (HSub.nil _))
      · have h20 := of_decide_eq_false h20
        refine RunL.still rfl rfl rfl (Still.fieldAddrL (off := 0) (off' := 1) rfl rfl Tryz.underlying24 rfl Tryz.sizeOf3 rfl) ?_
        refine RunL.still rfl rfl rfl (Still.load rfl rfl Tryz.isAgg3 (fun _ hs => cell_nth (hs.at (i := 0) rfl) rfl)) ?_
        refine RunL.still rfl rfl rfl (Still.gtr rfl rfl rfl) ?_
        refine RunL.still rfl rfl rfl (Still.pickF rfl rfl rfl) ?_
        refine RunL.nil ?_
        exact Ends.meet1 (Fr.Sub.cons (by first | exact congrArg (fun b => some (Value.bool b)) (decide_eq_true (by omega)).symm | exact congrArg (fun b => some (Value.bool b)) (decide_eq_false (by omega)).symm | exact congrArg (fun b => some (Value.bool b)) (decide_eq_decide.2 (by omega))) (Fr.Sub.nil _)) (Fr.Sub.cons rfl (Fr.Sub.cons rfl (Fr.Sub.nil _))) (HSub.pick 0 rfl (HSub.nil _))
  ·
    refine Ends.then ?_
    refine RunC.cond rfl (fun h24 => ?_) (fun h24 => ?_)
    · have h24 := of_decide_eq_true h24
      refine RunC.seq ?_
      refine RunC.region ?_
      refine RunL.still rfl rfl rfl (Still.assign rfl rfl) ?_
      refine RunL.nil ?_
      refine Ends.then ?_
      refine RunC.ret ?_
      refine Ends.then_ret ?_
      refine Ends.leave (.inl rfl) (fun _ _ ok => results1 Tryz.results34 (Holds.tmp rfl) ok) (fun w1 hs => ?_)
      exact Ret.intro () trivial (soundB_false (fun h => by have h1 := h.1; have h2 := h.2.1; have h3 := h.2.2.1; omega)) (HSub.nil _) hs
    · have h24 := of_decide_eq_false h24
      refine RunC.skip ?_
      refine Ends.then ?_
      refine RunC.seq ?_
      refine RunC.region ?_
      refine RunL.still rfl rfl rfl (Still.move rfl rfl) ?_
      refine RunL.still rfl rfl rfl (Still.mul rfl rfl rfl (fits64 (by omega) (by omega))) ?_
      refine RunL.grows rfl rfl rfl (Grows.make (n := (2 * d.cross.length)) (xs := (ints (List.replicate (2 * d.cross.length) 0))) rfl rfl rfl Tryz.underlying36 (by kernel_rfl : (_ : Option _) = some (some (.int .i64 0), 1, 8)) rfl (by omega) (by omega) (zeros_one _ _ |>.trans (ints_replicate _ _))) (fun b27 _ => ?_)
      refine RunL.still rfl rfl rfl (Still.assign rfl rfl) ?_
      refine RunL.nil ?_
      refine Ends.then ?_
      refine RunC.seq ?_
      refine RunC.region ?_
      refine RunL.still rfl rfl rfl (Still.move rfl rfl) ?_
      refine RunL.still rfl rfl rfl (Still.mul rfl rfl rfl (fits64 (by omega) (by omega))) ?_
      refine RunL.grows rfl rfl rfl (Grows.make (n := (2 * d.cross.length)) (xs := (ints (List.replicate (2 * d.cross.length) 0))) rfl rfl rfl Tryz.underlying36 (by kernel_rfl : (_ : Option _) = some (some (.int .i64 0), 1, 8)) rfl (by omega) (by omega) (zeros_one _ _ |>.trans (ints_replicate _ _))) (fun b30 _ => ?_)
      refine RunL.still rfl rfl rfl (Still.assign rfl rfl) ?_
      refine RunL.nil ?_
      refine Ends.then ?_
      refine RunC.seq ?_
      refine RunC.seq ?_
      refine RunC.region ?_
      refine RunL.still rfl rfl rfl (Still.assign rfl rfl) ?_
      refine RunL.nil ?_
      refine Ends.then ?_
      refine RunC.block ?_
      refine RunC.loop2 (γ := Nat) (keep := [(1, _), (3, _), (4, _), (5, _)]) (hkeep := [_]) (fun c => c ≤ d.cross.length ∧ ∀ i x, i < c → d.cross[i]? = some x → (x.s = 1 ∨ x.s = -1) ∧ ∀ p, p < 4 → 0 ≤ x.arc p ∧ x.arc p < 2 * d.cross.length) (fun c => d.cross.length - c) (fun c => [(6, iv c)]) (fun c => [HL.own 3 1 (.slice (some ⟨b27, 0, none⟩) (2 * d.cross.length) (2 * d.cross.length)) (2 * d.cross.length) (ints (cntL d false (4 * c))), HL.own 3 1 (.slice (some ⟨b30, 0, none⟩) (2 * d.cross.length) (2 * d.cross.length)) (2 * d.cross.length) (ints (cntL d true (4 * c)))]) 0 ⟨by omega, fun i x hi => by omega⟩ (Fr.Sub.cons rfl (Fr.Sub.nil _)) (Fr.Sub.cons rfl (Fr.Sub.cons rfl (Fr.Sub.cons rfl (Fr.Sub.cons rfl (Fr.Sub.nil _))))) (HSub.pick 1 (by rw [cntL_zero]; rfl) (HSub.pick 0 (by rw [cntL_zero]; rfl) (HSub.pick 0 rfl (HSub.nil _)))) ?_
      rintro c ⟨hc, hg⟩
      refine RunC.seq ?_
      refine RunC.seq ?_
      refine RunC.region ?_
      refine RunL.still rfl rfl rfl (Still.move rfl rfl) ?_
      refine RunL.still rfl rfl rfl (Still.move rfl rfl) ?_
      refine RunL.still rfl rfl rfl (Still.lss rfl rfl rfl) ?_
      refine RunL.nil ?_
      refine Ends.then ?_
      refine RunC.cond rfl (fun h33 => ?_) (fun h33 => ?_)
      · have h33 := of_decide_eq_true h33
        obtain ⟨x, hx⟩ := get_of_lt (l := d.cross) (i := c) (by omega)
        refine RunC.skip ?_
        refine Ends.then ?_
        refine RunC.seq ?_
        refine RunC.block ?_
        refine RunC.seq ?_
        refine RunC.seq ?_
        refine RunC.meet1 (chg := [(51, .bool (decide (¬ (x.s = 1 ∨ x.s = -1))))]) (keep := [(1, _), (3, _), (4, _), (5, _), (6, _)]) (hkeep := [_, _, _]) (Fr.Sub.cons rfl (Fr.Sub.cons rfl (Fr.Sub.cons rfl (Fr.Sub.cons rfl (Fr.Sub.cons rfl (Fr.Sub.nil _)))))) (HSub.pick 0 rfl (HSub.pick 0 rfl (HSub.pick 0 rfl (HSub.nil _)))) ?_ ?_
        ·
          refine RunC.region ?_
          refine RunL.still rfl rfl rfl (Still.fieldAddrL (off := 0) (off' := 0) rfl rfl Tryz.underlying24 rfl Tryz.sizeOf22 rfl) ?_
          refine RunL.still rfl rfl rfl (Still.load rfl rfl Tryz.isAgg22 (fun _ hs => cell_nth (hs.at (i := 2) rfl) rfl)) ?_
          refine RunL.still rfl rfl rfl (Still.move rfl rfl) ?_
          refine RunL.still rfl rfl rfl (Still.indexSliceN rfl rfl rfl Tryz.underlying22 Tryz.sizeOf62 (hd.base (by omega)) (by omega)) ?_
          refine RunL.still rfl rfl rfl (Still.fieldAddrA (off := 4) rfl rfl Tryz.underlying62 rfl Tryz.sizeOf3 rfl) ?_
          refine RunL.still rfl rfl rfl (Still.load rfl rfl Tryz.isAgg3 (fun _ hs => hs.base0 (hd.sign hx))) ?_
          refine RunL.still rfl rfl rfl (Still.neq rfl rfl rfl) ?_
          refine RunL.still rfl rfl rfl (Still.move rfl rfl) ?_
          refine RunL.split (t := 43) rfl (fun h43 => ?_) (fun h43 => ?_)
          · have h43 := of_decide_eq_true h43
            refine RunL.still rfl rfl rfl (Still.fieldAddrL (off := 0) (off' := 0) rfl rfl Tryz.underlying24 rfl Tryz.sizeOf22 rfl) ?_
            refine RunL.still rfl rfl rfl (Still.load rfl rfl Tryz.isAgg22 (fun _ hs => cell_nth (hs.at (i := 2) rfl) rfl)) ?_
            refine RunL.still rfl rfl rfl (Still.move rfl rfl) ?_
            refine RunL.still rfl rfl rfl (Still.indexSliceN rfl rfl rfl Tryz.underlying22 Tryz.sizeOf62 (hd.base (by omega)) (by omega)) ?_
            refine RunL.still rfl rfl rfl (Still.fieldAddrA (off := 4) rfl rfl Tryz.underlying62 rfl Tryz.sizeOf3 rfl) ?_
            refine RunL.still rfl rfl rfl (Still.load rfl rfl Tryz.isAgg3 (fun _ hs => hs.base0 (hd.sign hx))) ?_
            refine RunL.still rfl rfl rfl (Still.neq rfl rfl rfl) ?_
            refine RunL.still rfl rfl rfl (Still.pickT rfl rfl rfl) ?_
            refine RunL.nil ?_
            exact Ends.meet1 (Fr.Sub.cons (by first | exact congrArg (fun b => some (Value.bool b)) (decide_eq_true (by omega)).symm | exact congrArg (fun b => some (Value.bool b)) (decide_eq_false (by omega)).symm | exact congrArg (fun b => some (Value.bool b)) (decide_eq_decide.2 (by omega))) (Fr.Sub.nil _)) (Fr.Sub.cons rfl (Fr.Sub.cons rfl (Fr.Sub.cons rfl (Fr.Sub.cons rfl (Fr.Sub.cons rfl (Fr.Sub.nil _)))))) (HSub.pick 0 rfl (HSub.pick 0 rfl (HSub.pick 0 rfl (HSub.nil _))))
          · have h43 := of_decide_eq_false h43
            refine RunL.off rfl rfl rfl ?_
            refine RunL.off rfl rfl rfl ?_
            refine RunL.off rfl rfl rfl ?_
            refine RunL.off rfl rfl rfl ?_
            refine RunL.off rfl rfl rfl ?_
            refine RunL.off rfl rfl rfl ?_
            refine RunL.off rfl rfl rfl ?_
            refine RunL.still rfl rfl rfl (Still.pickF rfl rfl rfl) ?_
            refine RunL.nil ?_
            exact Ends.meet1 (Fr.Sub.cons (by first | exact congrArg (fun b => some (Value.bool b)) (decide_eq_true (by omega)).symm | exact congrArg (fun b => some (Value.bool b)) (decide_eq_false (by omega)).symm | exact congrArg (fun b => some (Value.bool b)) (decide_eq_decide.2 (by omega))) (Fr.Sub.nil _)) (Fr.Sub.cons rfl (Fr.Sub.cons rfl (Fr.Sub.cons rfl (Fr.Sub.cons rfl (Fr.Sub.cons rfl (Fr.Sub.nil _)))))) (HSub.pick 0 rfl (HSub.pick 0 rfl (HSub.pick 0 rfl (HSub.nil _))))
        ·
          refine Ends.then ?_
          refine RunC.cond rfl (fun h51 => ?_) (fun h51 => ?_)
          · have h51 := of_decide_eq_true h51
            refine RunC.seq ?_
            refine RunC.region ?_
            refine RunL.still rfl rfl rfl (Still.assign rfl rfl) ?_
            refine RunL.nil ?_
            refine Ends.then ?_
            refine RunC.ret ?_
            refine Ends.then_ret ?_
            refine Ends.block_ret ?_
            refine Ends.then_ret ?_
            refine Ends.then_ret ?_
            refine Ends.block_ret ?_
            refine Ends.then_ret ?_
            refine Ends.leave (.inl rfl) (fun _ _ ok => results1 Tryz.results34 (Holds.tmp rfl) ok) (fun w2 hs => ?_)
            exact Ret.intro () trivial (soundB_false (fun h => h51 (h.2.2.2.1 x (List.mem_of_getElem? hx)).1)) (HSub.nil _) hs
          · have h51 := of_decide_eq_false h51
            refine RunC.skip ?_
            refine Ends.then ?_
            refine RunC.seq ?_
            refine RunC.region ?_
            refine RunL.still rfl rfl rfl (Still.assign rfl rfl) ?_
            refine RunL.nil ?_
            refine Ends.then ?_
            refine RunC.block ?_
            refine RunC.loop2 (γ := Nat) (keep := [(1, _), (3, _), (4, _), (5, _), (6, _)]) (hkeep := [_]) (fun p => p ≤ 4 ∧ ∀ p', p' < p → 0 ≤ x.arc p' ∧ x.arc p' < 2 * d.cross.length) (fun p => 4 - p) (fun p => [(7, iv p)]) (fun p => [HL.own 3 1 (.slice (some ⟨b27, 0, none⟩) (2 * d.cross.length) (2 * d.cross.length)) (2 * d.cross.length) (ints (cntL d false (4 * c + p))), HL.own 3 1 (.slice (some ⟨b30, 0, none⟩) (2 * d.cross.length) (2 * d.cross.length)) (2 * d.cross.length) (ints (cntL d true (4 * c + p)))]) 0 ⟨by omega, fun i hi => by omega⟩ (Fr.Sub.cons rfl (Fr.Sub.nil _)) (Fr.Sub.cons rfl (Fr.Sub.cons rfl (Fr.Sub.cons rfl (Fr.Sub.cons rfl (Fr.Sub.cons rfl (Fr.Sub.nil _)))))) (HSub.pick 0 rfl (HSub.pick 0 rfl (HSub.pick 0 rfl (HSub.nil _)))) ?_
            rintro p ⟨hp, hg2⟩
            refine RunC.seq ?_
            refine RunC.seq ?_
            refine RunC.region ?_
            refine RunL.still rfl rfl rfl (Still.move rfl rfl) ?_
            refine RunL.still rfl rfl rfl (Still.lss rfl rfl rfl) ?_
            refine RunL.nil ?_
            refine Ends.then ?_
            refine RunC.cond rfl (fun h53 => ?_) (fun h53 => ?_)
            · have h53 := of_decide_eq_true h53
              have hp4 : p < 4 := by omega
              refine RunC.skip ?_
              refine Ends.then ?_
              refine RunC.seq ?_
              refine RunC.block ?_
              refine RunC.seq ?_
              refine RunC.region ?_
              refine RunL.still rfl rfl rfl (Still.fieldAddrL (off := 0) (off' := 0) rfl rfl Tryz.underlying24 rfl Tryz.sizeOf22 rfl) ?_
              refine RunL.still rfl rfl rfl (Still.load rfl rfl Tryz.isAgg22 (fun _ hs => cell_nth (hs.at (i := 2) rfl) rfl)) ?_
              refine RunL.still rfl rfl rfl (Still.move rfl rfl) ?_
              refine RunL.still rfl rfl rfl (Still.move rfl rfl) ?_
              refine RunL.still rfl rfl rfl (Still.indexSliceN rfl rfl rfl Tryz.underlying22 Tryz.sizeOf62 (hd.base (by omega)) (by omega)) ?_
              refine RunL.still rfl rfl rfl (Still.fieldAddrA (off := 0) rfl rfl Tryz.underlying62 rfl Tryz.sizeOf60 rfl) ?_
              refine RunL.still rfl rfl rfl (Still.indexArrN rfl rfl rfl Tryz.underlying60 Tryz.sizeOf3 (by omega)) ?_
              refine RunL.still rfl rfl rfl (Still.load rfl rfl Tryz.isAgg3 (fun _ hs => hs.base0 (hd.arc hx hp4))) ?_
              refine RunL.still rfl rfl rfl (Still.assign rfl rfl) ?_
              refine RunL.nil ?_
              refine Ends.then ?_
              refine RunC.seq ?_
              refine RunC.seq ?_
              refine RunC.meet1 (chg := [(71, .bool (decide (x.arc p < 0 ∨ 2 * (d.cross.length : Int) ≤ x.arc p)))]) (keep := [(1, _), (3, _), (4, _), (5, _), (6, _), (7, _), (8, _)]) (hkeep := [_, _, _]) (Fr.Sub.cons rfl (Fr.Sub.cons rfl (Fr.Sub.cons rfl (Fr.Sub.cons rfl (Fr.Sub.cons rfl (Fr.Sub.cons rfl (Fr.Sub.cons rfl (Fr.Sub.nil _)))))))) (HSub.pick 0 rfl (HSub.pick 0 rfl (HSub.pick 0 rfl (HSub.nil _)))) ?_ ?_
              ·
                refine RunC.region ?_
                refine RunL.still rfl rfl rfl (Still.move rfl rfl) ?_
                refine RunL.still rfl rfl rfl (Still.lss rfl rfl rfl) ?_
                refine RunL.still rfl rfl rfl (Still.move rfl rfl) ?_
                refine RunL.split (t := 66) rfl (fun h66 => ?_) (fun h66 => ?_)
                · have h66 := of_decide_eq_true h66
                  refine RunL.off rfl rfl rfl ?_
                  refine RunL.off rfl rfl rfl ?_
                  refine RunL.off rfl rfl rfl ?_
                  refine RunL.off rfl rfl rfl ?_
                  refine RunL.still rfl rfl rfl (Still.pickT rfl rfl rfl) ?_
                  refine RunL.nil ?_
                  exact Ends.meet1 (Fr.Sub.cons (by first | exact congrArg (fun b => some (Value.bool b)) (decide_eq_true (by omega)).symm | exact congrArg (fun b => some (Value.bool b)) (decide_eq_false (by omega)).symm | exact congrArg (fun b => some (Value.bool b)) (decide_eq_decide.2 (by omega))) (Fr.Sub.nil _)) (Fr.Sub.cons rfl (Fr.Sub.cons rfl (Fr.Sub.cons rfl (Fr.Sub.cons rfl (Fr.Sub.cons rfl (Fr.Sub.cons rfl (Fr.Sub.cons rfl (Fr.Sub.nil _)))))))) (HSub.pick 0 rfl (HSub.pick 0 rfl (HSub.pick 0 rfl (HSub.nil _))))
                · have h66 := of_decide_eq_false h66
                  refine RunL.still rfl rfl rfl (Still.move rfl rfl) ?_
                  refine RunL.still rfl rfl rfl (Still.move rfl rfl) ?_
                  refine RunL.still rfl rfl rfl (Still.mul rfl rfl rfl (fits64 (by omega) (by omega))) ?_
                  refine RunL.still rfl rfl rfl (Still.geq rfl rfl rfl) ?_
                  refine RunL.still rfl rfl rfl (Still.pickF rfl rfl rfl) ?_
                  refine RunL.nil ?_
                  exact Ends.meet1 (Fr.Sub.cons (by first | exact congrArg (fun b => some (Value.bool b)) (decide_eq_true (by omega)).symm | exact congrArg (fun b => some (Value.bool b)) (decide_eq_false (by omega)).symm | exact congrArg (fun b => some (Value.bool b)) (decide_eq_decide.2 (by omega))) (Fr.Sub.nil _)) (Fr.Sub.cons rfl (Fr.Sub.cons rfl (Fr.Sub.cons rfl (Fr.Sub.cons rfl (Fr.Sub.cons rfl (Fr.Sub.cons rfl (Fr.Sub.cons rfl (Fr.Sub.nil _)))))))) (HSub.pick 0 rfl (HSub.pick 0 rfl (HSub.pick 0 rfl (HSub.nil _))))
              ·
                refine Ends.then ?_
                refine RunC.cond rfl (fun h71 => ?_) (fun h71 => ?_)
                · have h71 := of_decide_eq_true h71
                  refine RunC.seq ?_
                  refine RunC.region ?_
                  refine RunL.still rfl rfl rfl (Still.assign rfl rfl) ?_
                  refine RunL.nil ?_
                  refine Ends.then ?_
                  refine RunC.ret ?_
                  refine Ends.then_ret ?_
                  refine Ends.block_ret ?_
                  refine Ends.then_ret ?_
                  refine Ends.then_ret ?_
                  refine Ends.block_ret ?_
                  refine Ends.block_ret ?_
                  refine Ends.then_ret ?_
                  refine Ends.then_ret ?_
                  refine Ends.block_ret ?_
                  refine Ends.then_ret ?_
                  refine Ends.leave (.inl rfl) (fun _ _ ok => results1 Tryz.results34 (Holds.tmp rfl) ok) (fun w3 hs => ?_)
                  exact Ret.intro () trivial (soundB_false (fun h => by have := (h.2.2.2.1 x (List.mem_of_getElem? hx)).2 p hp4; omega)) (HSub.nil _) hs
                · have h71 := of_decide_eq_false h71
                  refine RunC.skip ?_
                  refine Ends.then ?_
                  refine RunC.seq ?_
                  refine RunC.region ?_
                  refine RunL.still rfl rfl rfl (Still.fieldAddrL (off := 0) (off' := 0) rfl rfl Tryz.underlying24 rfl Tryz.sizeOf22 rfl) ?_
                  refine RunL.still rfl rfl rfl (Still.load rfl rfl Tryz.isAgg22 (fun _ hs => cell_nth (hs.at (i := 2) rfl) rfl)) ?_
                  refine RunL.still rfl rfl rfl (Still.move rfl rfl) ?_
                  refine RunL.still rfl rfl rfl (Still.indexSliceN rfl rfl rfl Tryz.underlying22 Tryz.sizeOf62 (hd.base (by omega)) (by omega)) ?_
                  refine RunL.still rfl rfl rfl (Still.loads rfl rfl Tryz.isAgg62 Tryz.sizeOf62 (vs := encCr x) rfl (fun _ hs => Cells.base0 (hd.cross hx) hs)) ?_
                  refine RunL.still rfl rfl rfl (Still.move rfl rfl) ?_
                  refine RunL.grows rfl rfl rfl (Grows.call (vs := #[_, _]) rfl rfl Tryz.call72 (fun w hs => ref_In x p w)) (fun _ _ => ?_)
                  refine RunL.nil ?_
                  refine Ends.then ?_
                  refine RunC.cond rfl (fun h78 => ?_) (fun h78 => ?_)
                  · skip
                    refine RunC.region ?_
                    have hm : x.arc p = ((x.arc p).toNat : Int) := arc_nat (by omega)
                    have hcb := cnt_bound d ((x.arc p).toNat : Int) true (4 * c + p)
                    refine RunL.still rfl rfl rfl (Still.move rfl rfl) ?_
                    refine RunL.still rfl rfl rfl (Still.move rfl rfl) ?_
                    refine RunL.still rfl rfl rfl (Still.indexOwnI (m := (x.arc p).toNat) rfl rfl rfl Tryz.underlying36 Tryz.sizeOf3 (fun _ hs => hs.own (i := 1) rfl) (hm) (by omega)) ?_
                    refine RunL.still rfl rfl rfl (Still.load rfl rfl Tryz.isAgg3 (fun w hs => own_at (hs.own (i := 1) rfl) (ints_get (cntL_get (by omega))))) ?_
                    refine RunL.still rfl rfl rfl (Still.add rfl rfl rfl (fits64 (by omega) (by omega))) ?_
                    refine RunL.still rfl rfl rfl (Still.indexOwnI (m := (x.arc p).toNat) rfl rfl rfl Tryz.underlying36 Tryz.sizeOf3 (fun _ hs => hs.own (i := 1) rfl) (hm) (by omega)) ?_
                    refine RunL.does0 rfl rfl (Does.storeOwn1 (xs' := (ints (cntL d true (4 * c + (p + 1))))) rfl rfl rfl rfl (i := 1) rfl Tryz.sizeOf3 rfl (by simp [cntL_len]; omega) ((ints_set _ _ _).trans (congrArg ints (cntL_set hx hp4 h78 hm (by omega))))) (fun _ _ => ?_)
                    refine RunL.nil ?_
                    refine Ends.block ?_
                    refine Ends.then ?_
                    refine RunC.region ?_
                    refine RunL.still rfl rfl rfl (Still.move rfl rfl) ?_
                    refine RunL.still rfl rfl rfl (Still.add rfl rfl rfl (fits64 (by omega) (by omega))) ?_
                    refine RunL.still rfl rfl rfl (Still.assign rfl rfl) ?_
                    refine RunL.nil ?_
                    refine Ends.again (p + 1) ?_ ?_ (Fr.Sub.app ?_ ?_) ?_
                    · exact ⟨by omega, fun p' h' => by rcases Nat.lt_or_ge p' p with h | h; exact hg2 p' h; obtain rfl : p' = p := (by omega); exact ⟨by omega, by omega⟩⟩
                    · show _ < _; omega
                    · exact Fr.Sub.cons rfl (Fr.Sub.nil _)
                    · exact Fr.Sub.cons rfl (Fr.Sub.cons rfl (Fr.Sub.cons rfl (Fr.Sub.cons rfl (Fr.Sub.cons rfl (Fr.Sub.nil _)))))
                    · exact HSub.pick 0 (by rw [cntL_same (inn := false) hx hp4 (by rw [h78]; simp)]; rfl) (HSub.pick 0 rfl (HSub.pick 0 rfl (HSub.nil _)))
                  · skip
                    refine RunC.region ?_
                    have hm : x.arc p = ((x.arc p).toNat : Int) := arc_nat (by omega)
                    have hcb := cnt_bound d ((x.arc p).toNat : Int) false (4 * c + p)
                    refine RunL.still rfl rfl rfl (Still.move rfl rfl) ?_
                    refine RunL.still rfl rfl rfl (Still.move rfl rfl) ?_
                    refine RunL.still rfl rfl rfl (Still.indexOwnI (m := (x.arc p).toNat) rfl rfl rfl Tryz.underlying36 Tryz.sizeOf3 (fun _ hs => hs.own (i := 0) rfl) (hm) (by omega)) ?_
                    refine RunL.still rfl rfl rfl (Still.load rfl rfl Tryz.isAgg3 (fun w hs => own_at (hs.own (i := 0) rfl) (ints_get (cntL_get (by omega))))) ?_
                    refine RunL.still rfl rfl rfl (Still.add rfl rfl rfl (fits64 (by omega) (by omega))) ?_
                    refine RunL.still rfl rfl rfl (Still.indexOwnI (m := (x.arc p).toNat) rfl rfl rfl Tryz.underlying36 Tryz.sizeOf3 (fun _ hs => hs.own (i := 0) rfl) (hm) (by omega)) ?_
                    refine RunL.does0 rfl rfl (Does.storeOwn1 (xs' := (ints (cntL d false (4 * c + (p + 1))))) rfl rfl rfl rfl (i := 0) rfl Tryz.sizeOf3 rfl (by simp [cntL_len]; omega) ((ints_set _ _ _).trans (congrArg ints (cntL_set hx hp4 h78 hm (by omega))))) (fun _ _ => ?_)
                    refine RunL.nil ?_
                    refine Ends.block ?_
                    refine Ends.then ?_
                    refine RunC.region ?_
                    refine RunL.still rfl rfl rfl (Still.move rfl rfl) ?_
                    refine RunL.still rfl rfl rfl (Still.add rfl rfl rfl (fits64 (by omega) (by omega))) ?_
                    refine RunL.still rfl rfl rfl (Still.assign rfl rfl) ?_
                    refine RunL.nil ?_
                    refine Ends.again (p + 1) ?_ ?_ (Fr.Sub.app ?_ ?_) ?_
                    · exact ⟨by omega, fun p' h' => by rcases Nat.lt_or_ge p' p with h | h; exact hg2 p' h; obtain rfl : p' = p := (by omega); exact ⟨by omega, by omega⟩⟩
                    · show _ < _; omega
                    · exact Fr.Sub.cons rfl (Fr.Sub.nil _)
                    · exact Fr.Sub.cons rfl (Fr.Sub.cons rfl (Fr.Sub.cons rfl (Fr.Sub.cons rfl (Fr.Sub.cons rfl (Fr.Sub.nil _)))))
                    · exact HSub.pick 0 rfl (HSub.pick 0 (by rw [cntL_same (inn := true) hx hp4 (by rw [h78]; simp)]; rfl) (HSub.pick 0 rfl (HSub.nil _)))
            · have h53 := of_decide_eq_false h53
              have hp4 : p = 4 := by omega
              refine RunC.exit ?_
              refine Ends.then_exit ?_
              refine Ends.then_exit ?_
              refine Ends.block_exit ?_
              refine Ends.block ?_
              refine Ends.then ?_
              refine RunC.region ?_
              refine RunL.still rfl rfl rfl (Still.move rfl rfl) ?_
              refine RunL.still rfl rfl rfl (Still.add rfl rfl rfl (fits64 (by omega) (by omega))) ?_
              refine RunL.still rfl rfl rfl (Still.assign rfl rfl) ?_
              refine RunL.nil ?_
              obtain rfl : p = 4 := by omega
              refine Ends.again (c + 1) ?_ ?_ (Fr.Sub.app ?_ ?_) ?_
              · exact ⟨by omega, fun i y hi hy => by rcases Nat.lt_or_ge i c with h | h; exact hg i y h hy; obtain rfl : i = c := (by omega); rw [hx] at hy; cases hy; exact ⟨by omega, hg2⟩⟩
              · show _ < _; omega
              · exact Fr.Sub.cons rfl (Fr.Sub.nil _)
              · exact Fr.Sub.cons rfl (Fr.Sub.cons rfl (Fr.Sub.cons rfl (Fr.Sub.cons rfl (Fr.Sub.nil _))))
              · exact HSub.pick 0 rfl (HSub.pick 0 rfl (HSub.pick 0 rfl (HSub.nil _)))
      · have h33 := of_decide_eq_false h33
        obtain rfl : c = d.cross.length := by omega
        refine RunC.exit ?_
        refine Ends.then_exit ?_
        refine Ends.then_exit ?_
        refine Ends.block_exit ?_
        refine Ends.then ?_
        refine RunC.seq ?_
        refine RunC.seq ?_
        refine RunC.region ?_
        refine RunL.still rfl rfl rfl (Still.assign rfl rfl) ?_
        refine RunL.nil ?_
        refine Ends.then ?_
        refine RunC.block ?_
        refine RunC.loop2 (γ := Nat) (keep := [(3, _), (4, _), (5, _)]) (hkeep := [_, _, _]) (fun a => a ≤ 2 * d.cross.length ∧ ∀ a', a' < a → cnt d (a' : Int) false (4 * d.cross.length) = 1 ∧ cnt d (a' : Int) true (4 * d.cross.length) = 1) (fun a => 2 * d.cross.length - a) (fun a => [(9, iv a)]) (fun a => []) 0 ⟨by omega, fun i hi => by omega⟩ (Fr.Sub.cons rfl (Fr.Sub.nil _)) (Fr.Sub.cons rfl (Fr.Sub.cons rfl (Fr.Sub.cons rfl (Fr.Sub.nil _)))) (HSub.pick 0 rfl (HSub.pick 0 rfl (HSub.pick 0 rfl (HSub.nil _)))) ?_
        rintro a ⟨ha, hg3⟩
        refine RunC.seq ?_
        refine RunC.seq ?_
        refine RunC.region ?_
        refine RunL.still rfl rfl rfl (Still.move rfl rfl) ?_
        refine RunL.still rfl rfl rfl (Still.move rfl rfl) ?_
        refine RunL.still rfl rfl rfl (Still.mul rfl rfl rfl (fits64 (by omega) (by omega))) ?_
        refine RunL.still rfl rfl rfl (Still.lss rfl rfl rfl) ?_
        refine RunL.nil ?_
        refine Ends.then ?_
        refine RunC.cond rfl (fun h94 => ?_) (fun h94 => ?_)
        · have h94 := of_decide_eq_true h94
          refine RunC.skip ?_
          refine Ends.then ?_
          refine RunC.seq ?_
          refine RunC.block ?_
          refine RunC.seq ?_
          refine RunC.meet1 (chg := [(108, .bool (decide (¬ (cnt d (a : Int) false (4 * d.cross.length) = 1 ∧ cnt d (a : Int) true (4 * d.cross.length) = 1))))]) (keep := [(3, _), (4, _), (5, _), (9, _)]) (hkeep := [_, _, _]) (Fr.Sub.cons rfl (Fr.Sub.cons rfl (Fr.Sub.cons rfl (Fr.Sub.cons rfl (Fr.Sub.nil _))))) (HSub.pick 0 rfl (HSub.pick 0 rfl (HSub.pick 0 rfl (HSub.nil _)))) ?_ ?_
          ·
            refine RunC.region ?_
            refine RunL.still rfl rfl rfl (Still.move rfl rfl) ?_
            refine RunL.still rfl rfl rfl (Still.move rfl rfl) ?_
            refine RunL.still rfl rfl rfl (Still.indexOwn rfl rfl rfl Tryz.underlying36 Tryz.sizeOf3 (fun _ hs => hs.own (i := 0) rfl) (by omega)) ?_
            refine RunL.still rfl rfl rfl (Still.load rfl rfl Tryz.isAgg3 (fun w hs => own_at (hs.own (i := 0) rfl) (ints_get (cntL_get (by omega))))) ?_
            refine RunL.still rfl rfl rfl (Still.neq rfl rfl rfl) ?_
            refine RunL.still rfl rfl rfl (Still.move rfl rfl) ?_
            refine RunL.split (t := 102) rfl (fun h102 => ?_) (fun h102 => ?_)
            · have h102 := of_decide_eq_true h102
              refine RunL.off rfl rfl rfl ?_
              refine RunL.off rfl rfl rfl ?_
              refine RunL.off rfl rfl rfl ?_
              refine RunL.off rfl rfl rfl ?_
              refine RunL.off rfl rfl rfl ?_
              refine RunL.still rfl rfl rfl (Still.pickT rfl rfl rfl) ?_
              refine RunL.nil ?_
              exact Ends.meet1 (Fr.Sub.cons (by first | exact congrArg (fun b => some (Value.bool b)) (decide_eq_true (by omega)).symm | exact congrArg (fun b => some (Value.bool b)) (decide_eq_false (by omega)).symm | exact congrArg (fun b => some (Value.bool b)) (decide_eq_decide.2 (by omega))) (Fr.Sub.nil _)) (Fr.Sub.cons rfl (Fr.Sub.cons rfl (Fr.Sub.cons rfl (Fr.Sub.cons rfl (Fr.Sub.nil _))))) (HSub.pick 0 rfl (HSub.pick 0 rfl (HSub.pick 0 rfl (HSub.nil _))))
            · have h102 := of_decide_eq_false h102
              refine RunL.still rfl rfl rfl (Still.move rfl rfl) ?_
              refine RunL.still rfl rfl rfl (Still.move rfl rfl) ?_
              refine RunL.still rfl rfl rfl (Still.indexOwn rfl rfl rfl Tryz.underlying36 Tryz.sizeOf3 (fun _ hs => hs.own (i := 1) rfl) (by omega)) ?_
              refine RunL.still rfl rfl rfl (Still.load rfl rfl Tryz.isAgg3 (fun w hs => own_at (hs.own (i := 1) rfl) (ints_get (cntL_get (by omega))))) ?_
              refine RunL.still rfl rfl rfl (Still.neq rfl rfl rfl) ?_
              refine RunL.still rfl rfl rfl (Still.pickF rfl rfl rfl) ?_
              refine RunL.nil ?_
              exact Ends.meet1 (Fr.Sub.cons (by first | exact congrArg (fun b => some (Value.bool b)) (decide_eq_true (by omega)).symm | exact congrArg (fun b => some (Value.bool b)) (decide_eq_false (by omega)).symm | exact congrArg (fun b => some (Value.bool b)) (decide_eq_decide.2 (by omega))) (Fr.Sub.nil _)) (Fr.Sub.cons rfl (Fr.Sub.cons rfl (Fr.Sub.cons rfl (Fr.Sub.cons rfl (Fr.Sub.nil _))))) (HSub.pick 0 rfl (HSub.pick 0 rfl (HSub.pick 0 rfl (HSub.nil _))))
          ·
            refine Ends.then ?_
            refine RunC.cond rfl (fun h108 => ?_) (fun h108 => ?_)
            · have h108 := of_decide_eq_true h108
              refine RunC.seq ?_
              refine RunC.region ?_
              refine RunL.still rfl rfl rfl (Still.assign rfl rfl) ?_
              refine RunL.nil ?_
              refine Ends.then ?_
              refine RunC.ret ?_
              refine Ends.block_ret ?_
              refine Ends.then_ret ?_
              refine Ends.then_ret ?_
              refine Ends.block_ret ?_
              refine Ends.then_ret ?_
              refine Ends.leave (.inl rfl) (fun _ _ ok => results1 Tryz.results34 (Holds.tmp rfl) ok) (fun w4 hs => ?_)
              exact Ret.intro () trivial (soundB_false (fun h => h108 (h.2.2.2.2 a (by omega)))) (HSub.nil _) hs
            · have h108 := of_decide_eq_false h108
              refine RunC.skip ?_
              refine Ends.block ?_
              refine Ends.then ?_
              refine RunC.region ?_
              refine RunL.still rfl rfl rfl (Still.move rfl rfl) ?_
              refine RunL.still rfl rfl rfl (Still.add rfl rfl rfl (fits64 (by omega) (by omega))) ?_
              refine RunL.still rfl rfl rfl (Still.assign rfl rfl) ?_
              refine RunL.nil ?_
              refine Ends.again (a + 1) ?_ ?_ (Fr.Sub.app ?_ ?_) ?_
              · exact ⟨by omega, fun i hi => by rcases Nat.lt_or_ge i a with h | h; exact hg3 i h; obtain rfl : i = a := (by omega); omega⟩
              · show _ < _; omega
              · exact Fr.Sub.cons rfl (Fr.Sub.nil _)
              · exact Fr.Sub.cons rfl (Fr.Sub.cons rfl (Fr.Sub.cons rfl (Fr.Sub.nil _)))
              · exact HSub.pick 0 rfl (HSub.pick 0 rfl (HSub.pick 0 rfl (HSub.nil _)))
        · have h94 := of_decide_eq_false h94
          refine RunC.exit ?_
          refine Ends.then_exit ?_
          refine Ends.then_exit ?_
          refine Ends.block_exit ?_
          refine Ends.then ?_
          refine RunC.seq ?_
          refine RunC.region ?_
          refine RunL.still rfl rfl rfl (Still.assign rfl rfl) ?_
          refine RunL.nil ?_
          refine Ends.then ?_
          refine RunC.ret ?_
          refine Ends.leave (.inl rfl) (fun _ _ ok => results1 Tryz.results34 (Holds.tmp rfl) ok) (fun w5 hs => ?_)
          exact Ret.intro () trivial (soundB_true ⟨by omega, by omega, by omega, fun y hy => by obtain ⟨i, hi⟩ := List.getElem?_of_mem hy; exact hg i y (by have := (List.getElem?_eq_some_iff.1 hi).1; omega) hi, fun a' ha' => hg3 a' (by omega)⟩) (HSub.nil _) hs

theorem ref_OtherQ (base : Option Addr) (A : Addr) (cap : Nat) (d : Dia) (q : Nat) (w : World) (hd : DiaAt w base A d) (hs0 : SoundP d) (hq : q < 4 * d.cross.length) : Gives Tryz.prog 88 #[diaV base cap d, .agg #[iv ((q / 4 : Nat) : Int), iv ((q % 4 : Nat) : Int)]] w Nil (fun _ : Unit => True) (fun _ => .agg #[iv ((otherQ d q / 4 : Nat) : Int), iv ((otherQ d q % 4 : Nat) : Int)]) (fun _ => []) := by
  have h := ref_Other base A cap d (q / 4) (q % 4) (crAt d (q / 4)) w hd (crAt_get (by omega)) (by omega)
  have e := hs0.other hq
  simp only [arcQ, innQ] at e
  rw [e] at h
  exact h

theorem ref_has (v : Value) (qs : List Nat) (c p : Nat) (w : World) (hv : Shape v qs.length) (hc : Cells w (vaddr v) (qs.flatMap encQ)) (hl : qs.length ≤ 100000) (hp : p < 4) : Gives Tryz.prog 101 #[v, .agg #[iv c, iv p]] w Nil (fun _ : Unit => True) (fun _ => .bool (qs.contains (4 * c + p))) (fun _ => []) := by
  refine fn_of_run (S := Nil) (args := [v, .agg #[iv c, iv p]]) (n := 18) (L := []) Tryz.func101 rfl Tryz.ntmps101 (Nat.le_of_ble_eq_true rfl) (Sym.nil _ _) ?_
  change RunC _ _ _ [(0, _), (1, _)] _
  refine RunC.seq ?_
  refine RunC.region ?_
  refine RunL.grows rfl rfl rfl (Grows.box rfl rfl) (fun b3 _ => ?_)
  refine RunL.still rfl rfl rfl (Still.assign rfl rfl) ?_
  refine RunL.nil ?_
  refine Ends.then ?_
  refine RunC.seq ?_
  refine RunC.seq ?_
  refine RunC.region ?_
  refine RunL.still rfl rfl rfl (Still.assign rfl rfl) ?_
  refine RunL.nil ?_
  refine Ends.then ?_
  refine RunC.block ?_
  refine RunC.loop2 (γ := Nat) (keep := [(0, _), (3, _)]) (hkeep := [_]) (fun i => i ≤ qs.length ∧ ∀ j q, j < i → qs[j]? = some q → q ≠ 4 * c + p) (fun i => qs.length - i) (fun i => [(5, iv i)]) (fun i => []) 0 ⟨by omega, fun j q hj => by omega⟩ (Fr.Sub.cons rfl (Fr.Sub.nil _)) (Fr.Sub.cons rfl (Fr.Sub.cons rfl (Fr.Sub.nil _))) (HSub.pick 0 rfl (HSub.nil _)) ?_
  rintro i ⟨hi, hno⟩
  refine RunC.seq ?_
  refine RunC.seq ?_
  refine RunC.region ?_
  refine RunL.still rfl rfl rfl (Still.move rfl rfl) ?_
  refine RunL.still rfl rfl rfl (Still.move rfl rfl) ?_
  refine RunL.still rfl rfl rfl (Still.lenV rfl rfl Tryz.underlying113 (hv)) ?_
  refine RunL.still rfl rfl rfl (Still.lss rfl rfl rfl) ?_
  refine RunL.nil ?_
  refine Ends.then ?_
  refine RunC.cond rfl (fun h9 => ?_) (fun h9 => ?_)
  · have h9 := of_decide_eq_true h9
    obtain ⟨q, hq⟩ := get_of_lt (l := qs) (i := i) (by omega)
    refine RunC.skip ?_
    refine Ends.then ?_
    refine RunC.seq ?_
    refine RunC.block ?_
    refine RunC.seq ?_
    refine RunC.draw 5 (.still 0 (.still 1 (.still 2 (.still 3 (.still 4 .done))))) (by kernel_rfl) (by kernel_rfl) ?_
    refine RunG.still rfl rfl rfl rfl (Still.move rfl rfl) ?_
    refine RunG.still rfl rfl rfl rfl (Still.move rfl rfl) ?_
    refine RunG.still rfl rfl rfl rfl (Still.indexV _ rfl rfl rfl Tryz.underlying113 Tryz.sizeOf110 (hv) (rfl) (by omega)) ?_
    refine RunG.still rfl rfl rfl rfl (Still.loads rfl rfl Tryz.isAgg110 Tryz.sizeOf110 (vs := [iv ((q / 4 : Nat) : Int), iv ((q % 4 : Nat) : Int)]) rfl (fun _ hs => cells_part (Cells.base0 hc hs) (encQ_at hq))) ?_
    refine RunG.still rfl rfl rfl rfl (Still.loads rfl rfl Tryz.isAgg110 Tryz.sizeOf110 (vs := [_, _]) rfl (fun _ hs => cells_nth (hs.at (i := 0) rfl) ⟨rfl, ⟨rfl, trivial⟩⟩)) ?_
    refine RunG.done ?_
    show RunL _ _ _ [_] _ _
    refine RunL.still rfl rfl rfl (Still.eqlAgg rfl rfl rfl Tryz.eqGuardType110 (fun _ => eq_two Tryz.underlying110 Tryz.stoodInHeld110 Tryz.underlying3 Tryz.underlying3 (by decide) (by decide) rfl rfl _ _ _ _ _ _)) ?_
    refine RunL.nil ?_
    refine Ends.then ?_
    refine RunC.cond rfl (fun h17 => ?_) (fun h17 => ?_)
    · have h17 := of_decide_eq_true h17
      refine RunC.seq ?_
      refine RunC.region ?_
      refine RunL.still rfl rfl rfl (Still.assign rfl rfl) ?_
      refine RunL.nil ?_
      refine Ends.then ?_
      refine RunC.ret ?_
      refine Ends.block_ret ?_
      refine Ends.then_ret ?_
      refine Ends.then_ret ?_
      refine Ends.block_ret ?_
      refine Ends.then_ret ?_
      refine Ends.leave (.inl rfl) (fun _ _ ok => results1 Tryz.results101 (Holds.tmp rfl) ok) (fun w1 hs => ?_)
      exact Ret.intro () trivial (congrArg Value.bool (List.contains_iff_mem.2 (by have e : q = 4 * c + p := (by omega); rw [← e]; exact List.mem_of_getElem? hq)).symm) (HSub.nil _) hs
    · have h17 := of_decide_eq_false h17
      refine RunC.skip ?_
      refine Ends.block ?_
      refine Ends.then ?_
      refine RunC.region ?_
      refine RunL.still rfl rfl rfl (Still.move rfl rfl) ?_
      refine RunL.still rfl rfl rfl (Still.add rfl rfl rfl (fits64 (by omega) (by omega))) ?_
      refine RunL.still rfl rfl rfl (Still.assign rfl rfl) ?_
      refine RunL.nil ?_
      refine Ends.again (i + 1) ?_ ?_ (Fr.Sub.app ?_ ?_) ?_
      · exact ⟨by omega, fun j q' hj hq' => by rcases Nat.lt_or_ge j i with h | h; exact hno j q' h hq'; obtain rfl : j = i := (by omega); rw [hq] at hq'; cases hq'; omega⟩
      · show _ < _; omega
      · exact Fr.Sub.cons rfl (Fr.Sub.nil _)
      · exact Fr.Sub.cons rfl (Fr.Sub.cons rfl (Fr.Sub.nil _))
      · exact HSub.pick 0 rfl (HSub.nil _)
  · have h9 := of_decide_eq_false h9
    refine RunC.exit ?_
    refine Ends.then_exit ?_
    refine Ends.then_exit ?_
    refine Ends.block_exit ?_
    refine Ends.then ?_
    refine RunC.seq ?_
    refine RunC.region ?_
    refine RunL.still rfl rfl rfl (Still.assign rfl rfl) ?_
    refine RunL.nil ?_
    refine Ends.then ?_
    refine RunC.ret ?_
    refine Ends.leave (.inl rfl) (fun _ _ ok => results1 Tryz.results101 (Holds.tmp rfl) ok) (fun w2 hs => ?_)
    exact Ret.intro () trivial (congrArg Value.bool (Bool.eq_false_iff.2 (fun hm => by obtain ⟨j, hj⟩ := List.getElem?_of_mem (List.contains_iff_mem.1 hm); exact hno j _ (by have := (List.getElem?_eq_some_iff.1 hj).1; omega) hj rfl)).symm) (HSub.nil _) hs

theorem ref_Region (base : Option Addr) (A : Addr) (cap : Nat) (d : Dia) (q0 : Nat) (w : World) (hd : DiaAt w base A d) (hs0 : SoundP d) (hq0 : q0 < 4 * d.cross.length) : Gives Tryz.prog 102 #[diaV base cap d, .agg #[iv ((q0 / 4 : Nat) : Int), iv ((q0 % 4 : Nat) : Int)]] w Nil (fun v : Value => Shape v (regionOf d q0).length) (fun v => v) (fun v => [HL.own 110 2 v (regionOf d q0).length ((regionOf d q0).flatMap encQ)]) := by
  have h200 := hs0.1
  obtain ⟨j0, hj0, hb0⟩ := hs0.back hq0
  refine fn_of_run (S := Nil) (args := [diaV base cap d, .agg #[iv ((q0 / 4 : Nat) : Int), iv ((q0 % 4 : Nat) : Int)]]) (n := 33) (L := []) Tryz.func102 rfl Tryz.ntmps102 (Nat.le_of_ble_eq_true rfl) (Sym.nil _ _) ?_
  change RunC _ _ _ [(0, _), (1, _)] _
  refine RunC.seq ?_
  refine RunC.region ?_
  refine RunL.grows rfl rfl rfl (Grows.box rfl rfl) (fun b2 _ => ?_)
  refine RunL.grows rfl rfl rfl (Grows.box rfl rfl) (fun b3 _ => ?_)
  refine RunL.still rfl rfl rfl (Still.assign rfl rfl) ?_
  refine RunL.nil ?_
  refine Ends.then ?_
  refine RunC.seq ?_
  refine RunC.region ?_
  refine RunL.still rfl rfl rfl (Still.loads rfl rfl Tryz.isAgg110 Tryz.sizeOf110 (vs := [_, _]) rfl (fun _ hs => cells_nth (hs.at (i := 0) rfl) ⟨rfl, ⟨rfl, trivial⟩⟩)) ?_
  refine RunL.grows rfl rfl rfl (Grows.slice1 rfl rfl Tryz.underlying113 Tryz.sizeOf110 rfl Tryz.zeroValue110 (by decide)) (fun b9 _ => ?_)
  refine RunL.conv (fun _ hs => Sym.obj_own (k := 2) (n := 1) hs rfl (by omega)) ?_
  refine RunL.still rfl rfl rfl (Still.assign rfl rfl) ?_
  refine RunL.nil ?_
  refine Ends.then ?_
  refine RunC.block ?_
  refine RunC.loop2 (γ := Value × List Nat × Nat × Nat) (keep := [(2, _), (3, _)]) (hkeep := [_, _]) (fun (v, pre, x, k) => x < 4 * d.cross.length ∧ pre ++ orbGo (stepQ d) q0 (k + 1) x = regionOf d q0 ∧ (∃ j, j ≤ k ∧ iter (stepQ d) (j + 1) x = q0) ∧ pre.length + k + 1 ≤ 4 * d.cross.length) (fun (v, pre, x, k) => k) (fun (v, pre, x, k) => [(5, v)]) (fun (v, pre, x, k) => [HL.own 110 2 v (pre.length + 1) ((pre ++ [x]).flatMap encQ)]) (.slice (some ⟨b9, 0, none⟩) 1 1, [], q0, 4 * d.cross.length - 1) ⟨hq0, by rw [show 4 * d.cross.length - 1 + 1 = 4 * d.cross.length by omega]; rfl, ⟨j0, hj0, hb0⟩, by show 0 + _ + 1 ≤ _; omega⟩ (Fr.Sub.cons rfl (Fr.Sub.nil _)) (Fr.Sub.cons rfl (Fr.Sub.cons rfl (Fr.Sub.nil _))) (HSub.pick 0 rfl (HSub.pick 0 rfl (HSub.pick 0 rfl (HSub.nil _)))) ?_
  rintro ⟨v, pre, x, k⟩ ⟨hx, hR, hj, hlen⟩
  refine RunC.block ?_
  refine RunC.seq ?_
  refine RunC.meetG (γ := Nat) (keep := [(2, _), (3, _), (5, _)]) (hkeep := [_, _, _]) (fun b6 => True) (fun b6 => [(6, .pointer (some ⟨b6, 0, none⟩))]) (fun b6 => [HL.obj b6 (.cells #[iv ((otherQ d x / 4 : Nat) : Int), iv ((otherQ d x % 4 : Nat) : Int)] 110 (0, 0))]) (Fr.Sub.cons rfl (Fr.Sub.cons rfl (Fr.Sub.cons rfl (Fr.Sub.nil _)))) (HSub.pick 0 rfl (HSub.pick 0 rfl (HSub.pick 0 rfl (HSub.nil _)))) ?_ ?_
  ·
    refine RunC.draw 9 (.still 0 (.still 1 (.still 2 (.still 3 (.still 4 (.still 5 (.still 6 (.two 7 (.one 8 .done) 8 (.one 7 .done))))))))) (by kernel_rfl) (by kernel_rfl) ?_
    refine RunG.still rfl rfl rfl rfl (Still.loads rfl rfl Tryz.isAgg24 Tryz.sizeOf24 (vs := [_, _]) rfl (fun _ hs => cells_nth (hs.at (i := 2) rfl) ⟨rfl, ⟨rfl, trivial⟩⟩)) ?_
    refine RunG.still rfl rfl rfl rfl (Still.move rfl rfl) ?_
    refine RunG.still rfl rfl rfl rfl (Still.move rfl rfl) ?_
    refine RunG.still rfl rfl rfl rfl (Still.lenOwn rfl rfl Tryz.underlying113 (fun _ hs => hs.own (i := 0) rfl)) ?_
    refine RunG.still rfl rfl rfl rfl (Still.sub rfl rfl rfl (fits64 (by omega) (by omega))) ?_
    refine RunG.still rfl rfl rfl rfl (Still.indexOwnI (m := pre.length) rfl rfl rfl Tryz.underlying113 Tryz.sizeOf110 (fun _ hs => hs.own (i := 0) rfl) (by omega) (by omega)) ?_
    refine RunG.still rfl rfl rfl rfl (Still.loads rfl rfl Tryz.isAgg110 Tryz.sizeOf110 (vs := [iv ((x / 4 : Nat) : Int), iv ((x % 4 : Nat) : Int)]) rfl (fun w hs => own_cells (hs.own (i := 0) rfl) (encQ_at (qs := pre ++ [x]) (by simp)))) ?_
    refine RunG.two ?_ ?_
    ·
      refine RunG.grows rfl rfl rfl rfl (Grows.call (vs := #[_, _]) rfl rfl Tryz.call88 (fun w hs => ref_OtherQ base A cap d x w (hd.sym hs) hs0 hx)) (fun _ _ => ?_)
      refine RunG.grows rfl rfl rfl rfl (Grows.alloc rfl Tryz.zeroValue110) (fun b6 _ => ?_)
      refine RunG.done ?_
      show RunL _ _ _ [_] _ _
      refine RunL.does0 rfl rfl (Does.store rfl rfl rfl (i := 0) rfl Tryz.sizeOf110 rfl (rfl) rfl) (fun _ _ => ?_)
      refine RunL.nil ?_
      exact Ends.meetG b6 trivial (Fr.Sub.cons rfl (Fr.Sub.nil _)) (Fr.Sub.cons rfl (Fr.Sub.cons rfl (Fr.Sub.cons rfl (Fr.Sub.nil _)))) (HSub.pick 0 rfl (HSub.pick 0 rfl (HSub.pick 0 rfl (HSub.pick 0 rfl (HSub.nil _)))))
    ·
      refine RunG.grows rfl rfl rfl rfl (Grows.alloc rfl Tryz.zeroValue110) (fun b6 _ => ?_)
      refine RunG.grows rfl rfl rfl rfl (Grows.call (vs := #[_, _]) rfl rfl Tryz.call88 (fun w hs => ref_OtherQ base A cap d x w (hd.sym hs) hs0 hx)) (fun _ _ => ?_)
      refine RunG.done ?_
      show RunL _ _ _ [_] _ _
      refine RunL.does0 rfl rfl (Does.store rfl rfl rfl (i := 0) rfl Tryz.sizeOf110 rfl (rfl) rfl) (fun _ _ => ?_)
      refine RunL.nil ?_
      exact Ends.meetG b6 trivial (Fr.Sub.cons rfl (Fr.Sub.nil _)) (Fr.Sub.cons rfl (Fr.Sub.cons rfl (Fr.Sub.cons rfl (Fr.Sub.nil _)))) (HSub.pick 0 rfl (HSub.pick 0 rfl (HSub.pick 0 rfl (HSub.pick 0 rfl (HSub.nil _)))))
  · rintro b6 _
    refine Ends.then ?_
    refine RunC.seq ?_
    refine RunC.region ?_
    refine RunL.still rfl rfl rfl (Still.fieldAddrL (off := 0) (off' := 0) rfl rfl Tryz.underlying110 rfl Tryz.sizeOf3 rfl) ?_
    refine RunL.still rfl rfl rfl (Still.load rfl rfl Tryz.isAgg3 (fun _ hs => cell_nth (hs.at (i := 0) rfl) rfl)) ?_
    refine RunL.still rfl rfl rfl (Still.fieldAddrL (off := 0) (off' := 1) rfl rfl Tryz.underlying110 rfl Tryz.sizeOf3 rfl) ?_
    refine RunL.still rfl rfl rfl (Still.load rfl rfl Tryz.isAgg3 (fun _ hs => cell_nth (hs.at (i := 0) rfl) rfl)) ?_
    refine RunL.still rfl rfl rfl (Still.add rfl rfl rfl (fits64 (by omega) (by omega))) ?_
    refine RunL.still rfl rfl rfl (Still.remP rfl rfl rfl (by omega) (by omega)) ?_
    refine RunL.still rfl rfl rfl (Still.build_1_1 (fun x0_0 x1_0 => .agg #[x0_0, x1_0]) rfl rfl rfl (fun _ => by kernel_rfl)) ?_
    refine RunL.grows rfl rfl rfl (Grows.alloc rfl Tryz.zeroValue110) (fun b7 _ => ?_)
    refine RunL.does0 rfl rfl (Does.store rfl rfl rfl (i := 0) rfl Tryz.sizeOf110 rfl (rfl) rfl) (fun _ _ => ?_)
    refine RunL.nil ?_
    refine Ends.then ?_
    refine RunC.seq ?_
    refine RunC.seq ?_
    refine RunC.region ?_
    refine RunL.still rfl rfl rfl (Still.loads rfl rfl Tryz.isAgg110 Tryz.sizeOf110 (vs := [_, _]) rfl (fun _ hs => cells_nth (hs.at (i := 0) rfl) ⟨rfl, ⟨rfl, trivial⟩⟩)) ?_
    refine RunL.still rfl rfl rfl (Still.loads rfl rfl Tryz.isAgg110 Tryz.sizeOf110 (vs := [_, _]) rfl (fun _ hs => cells_nth (hs.at (i := 3) rfl) ⟨rfl, ⟨rfl, trivial⟩⟩)) ?_
    refine RunL.still rfl rfl rfl (Still.eqlAgg rfl rfl rfl Tryz.eqGuardType110 (fun _ => eq_two Tryz.underlying110 Tryz.stoodInHeld110 Tryz.underlying3 Tryz.underlying3 (by decide) (by decide) rfl rfl _ _ _ _ _ _)) ?_
    refine RunL.nil ?_
    refine Ends.then ?_
    refine RunC.cond rfl (fun h27 => ?_) (fun h27 => ?_)
    · have h27 := of_decide_eq_true h27
      refine RunC.seq ?_
      refine RunC.region ?_
      refine RunL.still rfl rfl rfl (Still.move rfl rfl) ?_
      refine RunL.still rfl rfl rfl (Still.assign rfl rfl) ?_
      refine RunL.nil ?_
      refine Ends.then ?_
      refine RunC.ret ?_
      refine Ends.then_ret ?_
      refine Ends.block_ret ?_
      refine Ends.then_ret ?_
      refine Ends.block_ret ?_
      have he : stepQ d x = q0 := by have := step_div d x; have := step_mod d x; omega
      have hRR : pre ++ [x] = regionOf d q0 := by rw [← hR, orbGo_last he]
      refine Ends.leave (.inl rfl) (fun _ _ ok => results1 Tryz.results102 (Holds.tmp rfl) ok) (fun w1 hs => ?_)
      exact Ret.intro v (by have h := own_shape (hs.own (i := 2) rfl); rw [← hRR, List.length_append]; exact h) rfl (HSub.pick 2 (by rw [← hRR, List.length_append]; rfl) (HSub.nil _)) hs
    · have h27 := of_decide_eq_false h27
      refine RunC.skip ?_
      refine Ends.then ?_
      refine RunC.region ?_
      refine RunL.still rfl rfl rfl (Still.move rfl rfl) ?_
      refine RunL.still rfl rfl rfl (Still.loads rfl rfl Tryz.isAgg110 Tryz.sizeOf110 (vs := [_, _]) rfl (fun _ hs => cells_nth (hs.at (i := 0) rfl) ⟨rfl, ⟨rfl, trivial⟩⟩)) ?_
      refine RunL.grows rfl rfl rfl (Grows.slice1 rfl rfl Tryz.underlying113 Tryz.sizeOf110 rfl Tryz.zeroValue110 (by decide)) (fun b31 _ => ?_)
      refine RunL.does rfl rfl rfl (Does.appendTo (n' := (pre.length + 1 + 1)) (xs' := ((pre ++ [x] ++ [stepQ d x]).flatMap encQ)) (news := [_, _]) rfl rfl rfl rfl (i := 3) rfl Tryz.underlying113 (by kernel_rfl : (_ : Option _) = some (some (.agg #[.int .i64 0, .int .i64 0]), 2, 16)) rfl rfl (fun _ hs => cells_nth (hs.at (i := 0) rfl) ⟨rfl, ⟨rfl, trivial⟩⟩) rfl rfl (by omega) (by omega) (rfl) (flatQ_snoc (by rw [step_div]) (by rw [step_mod]; omega))) (fun v32 hv32 => ?_)
      refine RunL.still rfl rfl rfl (Still.assign rfl rfl) ?_
      refine RunL.nil ?_
      refine Ends.block ?_
      have hne : ¬ stepQ d x = q0 := fun e => h27 ⟨by rw [← e, step_div], by rw [← e, step_mod]; omega⟩
      obtain ⟨j, hj1, hj2⟩ := hj
      have hj0 : j ≠ 0 := fun e => by subst e; exact hne hj2
      obtain ⟨k, rfl⟩ : ∃ m, k = m + 1 := ⟨k - 1, by omega⟩
      refine Ends.again (v32, pre ++ [x], stepQ d x, k) ?_ ?_ (Fr.Sub.app ?_ ?_) ?_
      · exact ⟨hs0.step_lt hx, by rw [← hR, orbGo_next hne]; simp, ⟨j - 1, by show j - 1 ≤ k; omega, by rw [show j - 1 + 1 = j by omega]; exact hj2⟩, by simp only [List.length_append, List.length_singleton]; omega⟩
      · exact Nat.lt_succ_self _
      · exact Fr.Sub.cons rfl (Fr.Sub.nil _)
      · exact Fr.Sub.cons rfl (Fr.Sub.cons rfl (Fr.Sub.nil _))
      · exact HSub.pick 3 (by simp only [List.length_append, List.length_singleton]; rfl) (HSub.pick 3 rfl (HSub.pick 3 rfl (HSub.nil _)))

theorem ref_RegionCP (base : Option Addr) (A : Addr) (cap : Nat) (d : Dia) (c p : Nat) (w : World) (hd : DiaAt w base A d) (hs0 : SoundP d) (hc : c < d.cross.length) (hp : p < 4) : Gives Tryz.prog 102 #[diaV base cap d, .agg #[iv c, iv p]] w Nil (fun v : Value => Shape v (regionOf d (4 * c + p)).length) (fun v => v) (fun v => [HL.own 110 2 v (regionOf d (4 * c + p)).length ((regionOf d (4 * c + p)).flatMap encQ)]) := by
  have h := ref_Region base A cap d (4 * c + p) w hd hs0 (by omega)
  rwa [show (4 * c + p) / 4 = c by omega, show (4 * c + p) % 4 = p by omega] at h

theorem ref_Regions (base : Option Addr) (A : Addr) (cap : Nat) (d : Dia) (w : World) (hd : DiaAt w base A d) (hs0 : SoundP d) : Gives Tryz.prog 73 #[diaV base cap d] w Nil (fun g : Value × List (Value × List Nat) => g.2.map Prod.snd = regsOf d ∧ ∀ a ∈ g.2, Shape a.1 a.2.length) (fun g => g.1) (fun g => [HL.own 113 1 g.1 g.2.length (g.2.map Prod.fst), HL.rows regHL g.2]) := by
  have h200 := hs0.1
  refine fn_of_run (S := Nil) (args := [diaV base cap d]) (n := 48) (L := []) Tryz.func73 rfl Tryz.ntmps73 (Nat.le_of_ble_eq_true rfl) (Sym.nil _ _) ?_
  change RunC _ _ _ [(0, _)] _
  refine RunC.seq ?_
  refine RunC.region ?_
  refine RunL.grows rfl rfl rfl (Grows.box rfl rfl) (fun b1 _ => ?_)
  refine RunL.still rfl rfl rfl (Still.assign rfl rfl) ?_
  refine RunL.nil ?_
  refine Ends.then ?_
  refine RunC.seq ?_
  refine RunC.region ?_
  refine RunL.grows rfl rfl rfl (Grows.empty rfl Tryz.underlying45 Tryz.sizeOf113 Tryz.zeroValue113) (fun b9 _ => ?_)
  refine RunL.conv (fun _ hs => hs.rows_nil regHL) ?_
  refine RunL.still rfl rfl rfl (Still.assign rfl rfl) ?_
  refine RunL.nil ?_
  refine Ends.then ?_
  refine RunC.seq ?_
  refine RunC.seq ?_
  refine RunC.region ?_
  refine RunL.still rfl rfl rfl (Still.assign rfl rfl) ?_
  refine RunL.nil ?_
  refine Ends.then ?_
  refine RunC.block ?_
  refine RunC.loop2 (γ := Value × List (Value × List Nat) × Nat) (keep := [(1, _)]) (hkeep := [_]) (fun (v, rs, c) => c ≤ d.cross.length ∧ rs.map Prod.snd = regsTo d (4 * c) ∧ ∀ a ∈ rs, Shape a.1 a.2.length) (fun (v, rs, c) => d.cross.length - c) (fun (v, rs, c) => [(3, v), (4, iv c)]) (fun (v, rs, c) => [HL.own 113 1 v rs.length (rs.map Prod.fst), HL.rows regHL rs]) (.slice (some ⟨b9, 0, none⟩) 0 0, [], 0) ⟨by omega, rfl, fun a ha => by cases ha⟩ (Fr.Sub.cons rfl (Fr.Sub.cons rfl (Fr.Sub.nil _))) (Fr.Sub.cons rfl (Fr.Sub.nil _)) (HSub.pick 1 rfl (HSub.pick 0 rfl (HSub.pick 0 rfl (HSub.nil _)))) ?_
  rintro ⟨v, rs, c⟩ ⟨hc, hrs, hsh⟩
  refine RunC.seq ?_
  refine RunC.seq ?_
  refine RunC.region ?_
  refine RunL.still rfl rfl rfl (Still.move rfl rfl) ?_
  refine RunL.still rfl rfl rfl (Still.fieldAddrL (off := 0) (off' := 0) rfl rfl Tryz.underlying24 rfl Tryz.sizeOf22 rfl) ?_
  refine RunL.still rfl rfl rfl (Still.load rfl rfl Tryz.isAgg22 (fun _ hs => cell_nth (hs.at (i := 2) rfl) rfl)) ?_
  refine RunL.still rfl rfl rfl (Still.lenSlice rfl rfl Tryz.underlying22) ?_
  refine RunL.still rfl rfl rfl (Still.lss rfl rfl rfl) ?_
  refine RunL.nil ?_
  refine Ends.then ?_
  refine RunC.cond rfl (fun h14 => ?_) (fun h14 => ?_)
  · have h14 := of_decide_eq_true h14
    refine RunC.skip ?_
    refine Ends.then ?_
    refine RunC.seq ?_
    refine RunC.block ?_
    refine RunC.seq ?_
    refine RunC.region ?_
    refine RunL.still rfl rfl rfl (Still.assign rfl rfl) ?_
    refine RunL.nil ?_
    refine Ends.then ?_
    refine RunC.block ?_
    refine RunC.loop2 (γ := Value × List (Value × List Nat) × Nat) (keep := [(1, _), (4, _)]) (hkeep := [_]) (fun (v, rs, p) => p ≤ 4 ∧ rs.map Prod.snd = regsTo d (4 * c + p) ∧ ∀ a ∈ rs, Shape a.1 a.2.length) (fun (v, rs, p) => 4 - p) (fun (v, rs, p) => [(3, v), (5, iv p)]) (fun (v, rs, p) => [HL.own 113 1 v rs.length (rs.map Prod.fst), HL.rows regHL rs]) (v, rs, 0) ⟨by omega, hrs, hsh⟩ (Fr.Sub.cons rfl (Fr.Sub.cons rfl (Fr.Sub.nil _))) (Fr.Sub.cons rfl (Fr.Sub.cons rfl (Fr.Sub.nil _))) (HSub.pick 0 rfl (HSub.pick 0 rfl (HSub.pick 0 rfl (HSub.nil _)))) ?_
    rintro ⟨v, rs, p⟩ ⟨hp, hrs2, hsh2⟩
    have hal := regsTo_as_len hrs2
    refine RunC.seq ?_
    refine RunC.seq ?_
    refine RunC.region ?_
    refine RunL.still rfl rfl rfl (Still.move rfl rfl) ?_
    refine RunL.still rfl rfl rfl (Still.lss rfl rfl rfl) ?_
    refine RunL.nil ?_
    refine Ends.then ?_
    refine RunC.cond rfl (fun h18 => ?_) (fun h18 => ?_)
    · have h18 := of_decide_eq_true h18
      have hp4 : p < 4 := by omega
      refine RunC.skip ?_
      refine Ends.then ?_
      refine RunC.seq ?_
      refine RunC.block ?_
      refine RunC.seq ?_
      refine RunC.region ?_
      refine RunL.still rfl rfl rfl (Still.move rfl rfl) ?_
      refine RunL.still rfl rfl rfl (Still.move rfl rfl) ?_
      refine RunL.still rfl rfl rfl (Still.build_1_1 (fun x0_0 x1_0 => .agg #[x0_0, x1_0]) rfl rfl rfl (fun _ => by kernel_rfl)) ?_
      refine RunL.grows rfl rfl rfl (Grows.alloc rfl Tryz.zeroValue110) (fun b6 _ => ?_)
      refine RunL.does0 rfl rfl (Does.store rfl rfl rfl (i := 0) rfl Tryz.sizeOf110 rfl (rfl) rfl) (fun _ _ => ?_)
      refine RunL.nil ?_
      refine Ends.then ?_
      refine RunC.seq ?_
      refine RunC.region ?_
      refine RunL.still rfl rfl rfl (Still.assign rfl rfl) ?_
      refine RunL.nil ?_
      refine Ends.then ?_
      refine RunC.seq ?_
      refine RunC.seq ?_
      refine RunC.region ?_
      refine RunL.still rfl rfl rfl (Still.assign rfl rfl) ?_
      refine RunL.nil ?_
      refine Ends.then ?_
      refine RunC.block ?_
      refine RunC.loop2 (γ := Nat) (keep := [(1, _), (3, _), (4, _), (5, _), (6, _)]) (hkeep := [_, _, _, _]) (fun i => i ≤ rs.length) (fun i => rs.length - i) (fun i => [(7, .bool ((rs.take i).any fun a => a.2.contains (4 * c + p))), (8, iv i)]) (fun i => []) 0 (by omega) (Fr.Sub.cons rfl (Fr.Sub.cons rfl (Fr.Sub.nil _))) (Fr.Sub.cons rfl (Fr.Sub.cons rfl (Fr.Sub.cons rfl (Fr.Sub.cons rfl (Fr.Sub.cons rfl (Fr.Sub.nil _)))))) (HSub.pick 0 rfl (HSub.pick 0 rfl (HSub.pick 0 rfl (HSub.pick 0 rfl (HSub.nil _))))) ?_
      rintro i hi
      refine RunC.seq ?_
      refine RunC.seq ?_
      refine RunC.region ?_
      refine RunL.still rfl rfl rfl (Still.move rfl rfl) ?_
      refine RunL.still rfl rfl rfl (Still.move rfl rfl) ?_
      refine RunL.still rfl rfl rfl (Still.lenOwn rfl rfl Tryz.underlying45 (fun _ hs => hs.own (i := 1) rfl)) ?_
      refine RunL.still rfl rfl rfl (Still.lss rfl rfl rfl) ?_
      refine RunL.nil ?_
      refine Ends.then ?_
      refine RunC.cond rfl (fun h27 => ?_) (fun h27 => ?_)
      · have h27 := of_decide_eq_true h27
        obtain ⟨a, ha⟩ := get_of_lt (l := rs) (i := i) (by omega)
        have ham := List.mem_of_getElem? ha
        have hl2 := regsTo_mem_len hrs2 ham
        refine RunC.skip ?_
        refine Ends.then ?_
        refine RunC.seq ?_
        refine RunC.block ?_
        refine RunC.draw 7 (.still 0 (.still 1 (.still 2 (.still 3 (.still 4 (.still 5 (.still 6 .done))))))) (by kernel_rfl) (by kernel_rfl) ?_
        refine RunG.still rfl rfl rfl rfl (Still.move rfl rfl) ?_
        refine RunG.still rfl rfl rfl rfl (Still.move rfl rfl) ?_
        refine RunG.split (t := 31) rfl (fun h31 => ?_) (fun h31 => ?_)
        · skip
          refine RunG.off rfl rfl rfl rfl ?_
          refine RunG.off rfl rfl rfl rfl ?_
          refine RunG.off rfl rfl rfl rfl ?_
          refine RunG.off rfl rfl rfl rfl ?_
          refine RunG.off rfl rfl rfl rfl ?_
          refine RunG.done ?_
          show RunL _ _ _ [_, _, _] _ _
          refine RunL.off rfl rfl rfl ?_
          refine RunL.still rfl rfl rfl (Still.pickT rfl rfl rfl) ?_
          refine RunL.still rfl rfl rfl (Still.assign rfl rfl) ?_
          refine RunL.nil ?_
          refine Ends.block ?_
          refine Ends.then ?_
          refine RunC.region ?_
          refine RunL.still rfl rfl rfl (Still.move rfl rfl) ?_
          refine RunL.still rfl rfl rfl (Still.add rfl rfl rfl (fits64 (by omega) (by omega))) ?_
          refine RunL.still rfl rfl rfl (Still.assign rfl rfl) ?_
          refine RunL.nil ?_
          refine Ends.again (i + 1) ?_ ?_ (Fr.Sub.app ?_ ?_) ?_
          · show _; omega
          · show _ < _; omega
          · exact Fr.Sub.cons (by rw [any_take_succ ha, h31]; rfl) (Fr.Sub.cons rfl (Fr.Sub.nil _))
          · exact Fr.Sub.cons rfl (Fr.Sub.cons rfl (Fr.Sub.cons rfl (Fr.Sub.cons rfl (Fr.Sub.cons rfl (Fr.Sub.nil _)))))
          · exact HSub.pick 0 rfl (HSub.pick 0 rfl (HSub.pick 0 rfl (HSub.pick 0 rfl (HSub.nil _))))
        · skip
          refine RunG.still rfl rfl rfl rfl (Still.move rfl rfl) ?_
          refine RunG.still rfl rfl rfl rfl (Still.move rfl rfl) ?_
          refine RunG.still rfl rfl rfl rfl (Still.indexOwn rfl rfl rfl Tryz.underlying45 Tryz.sizeOf113 (fun _ hs => hs.own (i := 1) rfl) (by omega)) ?_
          refine RunG.still rfl rfl rfl rfl (Still.load rfl rfl Tryz.isAgg113 (fun w hs => own_at (hs.own (i := 1) rfl) (fst_get ha))) ?_
          refine RunG.still rfl rfl rfl rfl (Still.loads rfl rfl Tryz.isAgg110 Tryz.sizeOf110 (vs := [_, _]) rfl (fun _ hs => cells_nth (hs.at (i := 0) rfl) ⟨rfl, ⟨rfl, trivial⟩⟩)) ?_
          refine RunG.done ?_
          show RunL _ _ _ [_, _, _] _ _
          refine RunL.grows rfl rfl rfl (Grows.call (vs := #[_, _]) rfl rfl Tryz.call101 (fun w hs => ref_has a.1 a.2 c p w (hsh2 a ham) (own_all (rows_get (mk := regHL) (hs.at (i := 2) rfl) ha)) (by omega) hp4)) (fun _ _ => ?_)
          refine RunL.still rfl rfl rfl (Still.pickF rfl rfl rfl) ?_
          refine RunL.still rfl rfl rfl (Still.assign rfl rfl) ?_
          refine RunL.nil ?_
          refine Ends.block ?_
          refine Ends.then ?_
          refine RunC.region ?_
          refine RunL.still rfl rfl rfl (Still.move rfl rfl) ?_
          refine RunL.still rfl rfl rfl (Still.add rfl rfl rfl (fits64 (by omega) (by omega))) ?_
          refine RunL.still rfl rfl rfl (Still.assign rfl rfl) ?_
          refine RunL.nil ?_
          refine Ends.again (i + 1) ?_ ?_ (Fr.Sub.app ?_ ?_) ?_
          · show _; omega
          · show _ < _; omega
          · exact Fr.Sub.cons (by rw [any_take_succ ha, h31, Bool.false_or]; rfl) (Fr.Sub.cons rfl (Fr.Sub.nil _))
          · exact Fr.Sub.cons rfl (Fr.Sub.cons rfl (Fr.Sub.cons rfl (Fr.Sub.cons rfl (Fr.Sub.cons rfl (Fr.Sub.nil _)))))
          · exact HSub.pick 0 rfl (HSub.pick 0 rfl (HSub.pick 0 rfl (HSub.pick 0 rfl (HSub.nil _))))
      · have h27 := of_decide_eq_false h27
        refine RunC.exit ?_
        refine Ends.then_exit ?_
        refine Ends.then_exit ?_
        refine Ends.block_exit ?_
        refine Ends.then ?_
        refine RunC.seq ?_
        refine RunC.region ?_
        refine RunL.still rfl rfl rfl (Still.move rfl rfl) ?_
        refine RunL.still rfl rfl rfl (Still.not rfl rfl) ?_
        refine RunL.nil ?_
        refine Ends.then ?_
        refine RunC.cond rfl (fun h40 => ?_) (fun h40 => ?_)
        · rw [List.take_of_length_le (by omega)] at h40
          refine RunC.region ?_
          refine RunL.still rfl rfl rfl (Still.move rfl rfl) ?_
          refine RunL.still rfl rfl rfl (Still.loads rfl rfl Tryz.isAgg24 Tryz.sizeOf24 (vs := [_, _]) rfl (fun _ hs => cells_nth (hs.at (i := 3) rfl) ⟨rfl, ⟨rfl, trivial⟩⟩)) ?_
          refine RunL.still rfl rfl rfl (Still.loads rfl rfl Tryz.isAgg110 Tryz.sizeOf110 (vs := [_, _]) rfl (fun _ hs => cells_nth (hs.at (i := 0) rfl) ⟨rfl, ⟨rfl, trivial⟩⟩)) ?_
          refine RunL.grows rfl rfl rfl (Grows.call (vs := #[_, _]) rfl rfl Tryz.call102 (fun w hs => ref_RegionCP base A cap d c p w (hd.sym hs) hs0 (by omega) hp4)) (fun v44 hv44 => ?_)
          obtain ⟨vb, vc, hvv, hvb⟩ := hv44
          subst hvv
          refine RunL.grows rfl rfl rfl (Grows.slice1 rfl rfl Tryz.underlying45 Tryz.sizeOf113 rfl Tryz.zeroValue113 (by decide)) (fun b45 _ => ?_)
          refine RunL.does rfl rfl rfl (Does.appendTo (n' := (rs.length + 1)) (xs' := ((rs ++ [(Value.slice vb (regionOf d (4 * c + p)).length vc, regionOf d (4 * c + p))]).map Prod.fst)) (news := [_]) rfl rfl rfl rfl (i := 3) rfl Tryz.underlying45 (by kernel_rfl : (_ : Option _) = some (some (.slice none 0 0), 1, 24)) rfl rfl (fun _ hs => cells_nth (hs.at (i := 0) rfl) ⟨rfl, trivial⟩) rfl rfl (by omega) (by omega) (rfl) (by simp)) (fun v46 hv46 => ?_)
          refine RunL.conv (fun _ hs => Sym.rows_push (mk := regHL) (a := (Value.slice vb (regionOf d (4 * c + p)).length vc, regionOf d (4 * c + p))) (hs.sub (HSub.pick 1 rfl (HSub.pick 3 rfl (HSub.pick 0 rfl (HSub.pick 0 rfl (HSub.pick 0 rfl (HSub.pick 0 rfl (HSub.nil _))))))))) ?_
          refine RunL.still rfl rfl rfl (Still.assign rfl rfl) ?_
          refine RunL.nil ?_
          refine Ends.block ?_
          refine Ends.then ?_
          refine RunC.region ?_
          refine RunL.still rfl rfl rfl (Still.move rfl rfl) ?_
          refine RunL.still rfl rfl rfl (Still.add rfl rfl rfl (fits64 (by omega) (by omega))) ?_
          refine RunL.still rfl rfl rfl (Still.assign rfl rfl) ?_
          refine RunL.nil ?_
          refine Ends.again (v46, rs ++ [(Value.slice vb (regionOf d (4 * c + p)).length vc, regionOf d (4 * c + p))], p + 1) ?_ ?_ (Fr.Sub.app ?_ ?_) ?_
          · exact ⟨by show p + 1 ≤ 4; omega, regs_push hrs2 (by simpa using h40), fun a ha => by rcases List.mem_append.1 ha with ha | ha; exact hsh2 a ha; cases List.mem_singleton.1 ha; exact ⟨vb, vc, rfl, hvb⟩⟩
          · show 4 - (p + 1) < 4 - p; omega
          · exact Fr.Sub.cons rfl (Fr.Sub.cons rfl (Fr.Sub.nil _))
          · exact Fr.Sub.cons rfl (Fr.Sub.cons rfl (Fr.Sub.nil _))
          · exact HSub.pick 3 (by simp only [List.length_append, List.length_singleton]; rfl) (HSub.pick 0 rfl (HSub.pick 2 rfl (HSub.nil _)))
        · rw [List.take_of_length_le (by omega)] at h40
          refine RunC.skip ?_
          refine Ends.block ?_
          refine Ends.then ?_
          refine RunC.region ?_
          refine RunL.still rfl rfl rfl (Still.move rfl rfl) ?_
          refine RunL.still rfl rfl rfl (Still.add rfl rfl rfl (fits64 (by omega) (by omega))) ?_
          refine RunL.still rfl rfl rfl (Still.assign rfl rfl) ?_
          refine RunL.nil ?_
          refine Ends.again (v, rs, p + 1) ?_ ?_ (Fr.Sub.app ?_ ?_) ?_
          · exact ⟨by show p + 1 ≤ 4; omega, regs_keep hrs2 (by simpa using h40), hsh2⟩
          · show 4 - (p + 1) < 4 - p; omega
          · exact Fr.Sub.cons rfl (Fr.Sub.cons rfl (Fr.Sub.nil _))
          · exact Fr.Sub.cons rfl (Fr.Sub.cons rfl (Fr.Sub.nil _))
          · exact HSub.pick 1 rfl (HSub.pick 1 rfl (HSub.pick 1 rfl (HSub.nil _)))
    · have h18 := of_decide_eq_false h18
      refine RunC.exit ?_
      refine Ends.then_exit ?_
      refine Ends.then_exit ?_
      refine Ends.block_exit ?_
      refine Ends.block ?_
      refine Ends.then ?_
      refine RunC.region ?_
      refine RunL.still rfl rfl rfl (Still.move rfl rfl) ?_
      refine RunL.still rfl rfl rfl (Still.add rfl rfl rfl (fits64 (by omega) (by omega))) ?_
      refine RunL.still rfl rfl rfl (Still.assign rfl rfl) ?_
      refine RunL.nil ?_
      obtain rfl : p = 4 := by omega
      refine Ends.again (v, rs, c + 1) ?_ ?_ (Fr.Sub.app ?_ ?_) ?_
      · exact ⟨by show c + 1 ≤ _; omega, hrs2, hsh2⟩
      · show _ - (c + 1) < _ - c; omega
      · exact Fr.Sub.cons rfl (Fr.Sub.cons rfl (Fr.Sub.nil _))
      · exact Fr.Sub.cons rfl (Fr.Sub.nil _)
      · exact HSub.pick 0 rfl (HSub.pick 0 rfl (HSub.pick 0 rfl (HSub.nil _)))
  · have h14 := of_decide_eq_false h14
    refine RunC.exit ?_
    refine Ends.then_exit ?_
    refine Ends.then_exit ?_
    refine Ends.block_exit ?_
    refine Ends.then ?_
    refine RunC.seq ?_
    refine RunC.region ?_
    refine RunL.still rfl rfl rfl (Still.move rfl rfl) ?_
    refine RunL.still rfl rfl rfl (Still.assign rfl rfl) ?_
    refine RunL.nil ?_
    refine Ends.then ?_
    refine RunC.ret ?_
    obtain rfl : c = d.cross.length := by omega
    refine Ends.leave (.inl rfl) (fun _ _ ok => results1 Tryz.results73 (Holds.tmp rfl) ok) (fun w1 hs => ?_)
    exact Ret.intro (v, rs) ⟨hrs, hsh⟩ rfl (HSub.pick 0 rfl (HSub.pick 0 rfl (HSub.nil _))) hs

theorem ref_OtherCP (base : Option Addr) (A : Addr) (cap : Nat) (d : Dia) (c p : Nat) (w : World) (hd : DiaAt w base A d) (hs0 : SoundP d) (hc : c < d.cross.length) (hp : p < 4) : Gives Tryz.prog 88 #[diaV base cap d, .agg #[iv c, iv p]] w Nil (fun _ : Unit => True) (fun _ => .agg #[iv ((otherQ d (4 * c + p) / 4 : Nat) : Int), iv ((otherQ d (4 * c + p) % 4 : Nat) : Int)]) (fun _ => []) := by
  have h := ref_OtherQ base A cap d (4 * c + p) w hd hs0 (by omega)
  rwa [show (4 * c + p) / 4 = c by omega, show (4 * c + p) % 4 = p by omega] at h

theorem ref_Piece (base : Option Addr) (A : Addr) (cap : Nat) (d : Dia) (a : Nat) (w : World) (hd : DiaAt w base A d) (hs0 : SoundP d) (ha : a < d.cross.length) : Gives Tryz.prog 51 #[diaV base cap d, iv a] w Nil (fun v : Value => Shape v (pieceOf d a).length) (fun v => v) (fun v => [HL.own 3 1 v (pieceOf d a).length (ints ((pieceOf d a).map Int.ofNat))]) := by
  have h200 := hs0.1
  have ha0 : (List.replicate d.cross.length false)[a]? = some false := by simp [ha]
  refine fn_of_run (S := Nil) (args := [diaV base cap d, iv a]) (n := 67) (L := []) Tryz.func51 rfl Tryz.ntmps51 (Nat.le_of_ble_eq_true rfl) (Sym.nil _ _) ?_
  change RunC _ _ _ [(0, _), (1, _)] _
  refine RunC.seq ?_
  refine RunC.region ?_
  refine RunL.grows rfl rfl rfl (Grows.box rfl rfl) (fun b2 _ => ?_)
  refine RunL.still rfl rfl rfl (Still.assign rfl rfl) ?_
  refine RunL.nil ?_
  refine Ends.then ?_
  refine RunC.seq ?_
  refine RunC.region ?_
  refine RunL.still rfl rfl rfl (Still.fieldAddrL (off := 0) (off' := 0) rfl rfl Tryz.underlying24 rfl Tryz.sizeOf22 rfl) ?_
  refine RunL.still rfl rfl rfl (Still.load rfl rfl Tryz.isAgg22 (fun _ hs => cell_nth (hs.at (i := 0) rfl) rfl)) ?_
  refine RunL.still rfl rfl rfl (Still.lenSlice rfl rfl Tryz.underlying22) ?_
  refine RunL.grows rfl rfl rfl (Grows.make (n := d.cross.length) (xs := (bools (List.replicate d.cross.length false))) rfl rfl rfl Tryz.underlying102 (by kernel_rfl : (_ : Option _) = some (some (.bool false), 1, 1)) rfl (by omega) (by omega) (zeros_one _ _ |>.trans (bools_replicate _ _))) (fun b15 _ => ?_)
  refine RunL.still rfl rfl rfl (Still.assign rfl rfl) ?_
  refine RunL.nil ?_
  refine Ends.then ?_
  refine RunC.seq ?_
  refine RunC.region ?_
  refine RunL.still rfl rfl rfl (Still.move rfl rfl) ?_
  refine RunL.still rfl rfl rfl (Still.move rfl rfl) ?_
  refine RunL.still rfl rfl rfl (Still.indexOwn rfl rfl rfl Tryz.underlying102 Tryz.sizeOf4 (fun _ hs => hs.own (i := 0) rfl) (by omega)) ?_
  refine RunL.does0 rfl rfl (Does.storeOwn1 (xs' := (bools ((List.replicate d.cross.length false).set a true))) rfl rfl rfl rfl (i := 0) rfl Tryz.sizeOf4 rfl (by simp; omega) (bools_set _ _ _)) (fun _ _ => ?_)
  refine RunL.nil ?_
  refine Ends.then ?_
  refine RunC.seq ?_
  refine RunC.seq ?_
  refine RunC.region ?_
  refine RunL.still rfl rfl rfl (Still.assign rfl rfl) ?_
  refine RunL.nil ?_
  refine Ends.then ?_
  refine RunC.block ?_
  refine RunC.loop2 (γ := List Bool × Bool) (keep := [(2, _), (5, _)]) (hkeep := [_]) (fun (xs, ag) => xs.length = d.cross.length ∧ xs[a]? = some true ∧ (∀ c, xs[c]? = some true → Conn d a c) ∧ (ag = false → ∀ c p, c < d.cross.length → p < 4 → Cl d xs c p)) (fun (xs, ag) => 2 * falses xs + (bif ag then 1 else 0)) (fun (xs, ag) => [(6, .bool ag)]) (fun (xs, ag) => [HL.own 4 1 (.slice (some ⟨b15, 0, none⟩) d.cross.length d.cross.length) d.cross.length (bools xs)]) ((List.replicate d.cross.length false).set a true, true) ⟨by simp, by simp [ha], fun c hc => by rw [List.getElem?_set] at hc; split at hc; (rename_i e; subst e; exact .refl); (exfalso; rw [List.getElem?_replicate] at hc; split at hc <;> simp at hc), fun h => by cases h⟩ (Fr.Sub.cons rfl (Fr.Sub.nil _)) (Fr.Sub.cons rfl (Fr.Sub.cons rfl (Fr.Sub.nil _))) (HSub.pick 0 rfl (HSub.pick 0 rfl (HSub.nil _))) ?_
  rintro ⟨xs0, ag⟩ ⟨hl0, h00, hc0, hcl0⟩
  refine RunC.seq ?_
  refine RunC.seq ?_
  refine RunC.region ?_
  refine RunL.still rfl rfl rfl (Still.move rfl rfl) ?_
  refine RunL.nil ?_
  refine Ends.then ?_
  refine RunC.cond rfl (fun h19 => ?_) (fun h19 => ?_)
  · subst h19
    refine RunC.skip ?_
    refine Ends.then ?_
    refine RunC.block ?_
    refine RunC.seq ?_
    refine RunC.region ?_
    refine RunL.still rfl rfl rfl (Still.assign rfl rfl) ?_
    refine RunL.nil ?_
    refine Ends.then ?_
    refine RunC.seq ?_
    refine RunC.region ?_
    refine RunL.still rfl rfl rfl (Still.assign rfl rfl) ?_
    refine RunL.nil ?_
    refine Ends.then ?_
    refine RunC.block ?_
    refine RunC.loop2 (γ := List Bool × Bool × Nat) (keep := [(2, _), (5, _)]) (hkeep := [_]) (fun (xs, ag, c) => c ≤ d.cross.length ∧ xs.length = d.cross.length ∧ xs[a]? = some true ∧ (∀ c, xs[c]? = some true → Conn d a c) ∧ (ag = false → xs = xs0 ∧ ∀ c' p, c' < c → p < 4 → Cl d xs0 c' p) ∧ (ag = true → falses xs < falses xs0)) (fun (xs, ag, c) => d.cross.length - c) (fun (xs, ag, c) => [(6, .bool ag), (7, iv c)]) (fun (xs, ag, c) => [HL.own 4 1 (.slice (some ⟨b15, 0, none⟩) d.cross.length d.cross.length) d.cross.length (bools xs)]) (xs0, false, 0) ⟨by omega, hl0, h00, hc0, fun _ => ⟨rfl, fun c p h => by omega⟩, fun h => by cases h⟩ (Fr.Sub.cons rfl (Fr.Sub.cons rfl (Fr.Sub.nil _))) (Fr.Sub.cons rfl (Fr.Sub.cons rfl (Fr.Sub.nil _))) (HSub.pick 0 rfl (HSub.pick 0 rfl (HSub.nil _))) ?_
    rintro ⟨xs, ag, c⟩ ⟨hcc, hl, h0, hc, hcl, hlt⟩
    refine RunC.seq ?_
    refine RunC.seq ?_
    refine RunC.region ?_
    refine RunL.still rfl rfl rfl (Still.move rfl rfl) ?_
    refine RunL.still rfl rfl rfl (Still.move rfl rfl) ?_
    refine RunL.still rfl rfl rfl (Still.lenOwn rfl rfl Tryz.underlying102 (fun _ hs => hs.own (i := 0) rfl)) ?_
    refine RunL.still rfl rfl rfl (Still.lss rfl rfl rfl) ?_
    refine RunL.nil ?_
    refine Ends.then ?_
    refine RunC.cond rfl (fun h23 => ?_) (fun h23 => ?_)
    · have h23 := of_decide_eq_true h23
      refine RunC.skip ?_
      refine Ends.then ?_
      refine RunC.seq ?_
      refine RunC.block ?_
      refine RunC.seq ?_
      refine RunC.region ?_
      refine RunL.still rfl rfl rfl (Still.assign rfl rfl) ?_
      refine RunL.nil ?_
      refine Ends.then ?_
      refine RunC.block ?_
      refine RunC.loop2 (γ := List Bool × Bool × Nat) (keep := [(2, _), (5, _), (7, _)]) (hkeep := [_]) (fun (xs, ag, p) => p ≤ 4 ∧ xs.length = d.cross.length ∧ xs[a]? = some true ∧ (∀ c, xs[c]? = some true → Conn d a c) ∧ (ag = false → xs = xs0 ∧ (∀ c' p, c' < c → p < 4 → Cl d xs0 c' p) ∧ ∀ p', p' < p → Cl d xs0 c p') ∧ (ag = true → falses xs < falses xs0)) (fun (xs, ag, p) => 4 - p) (fun (xs, ag, p) => [(6, .bool ag), (8, iv p)]) (fun (xs, ag, p) => [HL.own 4 1 (.slice (some ⟨b15, 0, none⟩) d.cross.length d.cross.length) d.cross.length (bools xs)]) (xs, ag, 0) ⟨by omega, hl, h0, hc, fun e => ⟨(hcl e).1, (hcl e).2, fun p h => by omega⟩, hlt⟩ (Fr.Sub.cons rfl (Fr.Sub.cons rfl (Fr.Sub.nil _))) (Fr.Sub.cons rfl (Fr.Sub.cons rfl (Fr.Sub.cons rfl (Fr.Sub.nil _)))) (HSub.pick 0 rfl (HSub.pick 0 rfl (HSub.nil _))) ?_
      rintro ⟨xs, ag, p⟩ ⟨hpp, hl, h0, hc, hcl, hlt⟩
      refine RunC.seq ?_
      refine RunC.seq ?_
      refine RunC.region ?_
      refine RunL.still rfl rfl rfl (Still.move rfl rfl) ?_
      refine RunL.still rfl rfl rfl (Still.lss rfl rfl rfl) ?_
      refine RunL.still rfl rfl rfl (Still.move rfl rfl) ?_
      refine RunL.split (t := 28) rfl (fun h28 => ?_) (fun h28 => ?_)
      · have h28 := of_decide_eq_true h28
        have hp4 : p < 4 := by omega
        obtain ⟨y, hy⟩ := get_of_lt (l := xs) (i := c) (by omega)
        refine RunL.still rfl rfl rfl (Still.move rfl rfl) ?_
        refine RunL.still rfl rfl rfl (Still.move rfl rfl) ?_
        refine RunL.still rfl rfl rfl (Still.indexOwn rfl rfl rfl Tryz.underlying102 Tryz.sizeOf4 (fun _ hs => hs.own (i := 0) rfl) (by omega)) ?_
        refine RunL.still rfl rfl rfl (Still.load rfl rfl Tryz.isAgg4 (fun w hs => own_at (hs.own (i := 0) rfl) (bools_get hy))) ?_
        refine RunL.still rfl rfl rfl (Still.pickT rfl rfl rfl) ?_
        refine RunL.nil ?_
        refine Ends.then ?_
        refine RunC.cond rfl (fun h33 => ?_) (fun h33 => ?_)
        · have hot := hs0.other_lt (q := 4 * c + p) (by omega)
          refine RunC.skip ?_
          refine Ends.then ?_
          refine RunC.seq ?_
          refine RunC.block ?_
          refine RunC.seq ?_
          refine RunC.region ?_
          refine RunL.still rfl rfl rfl (Still.loads rfl rfl Tryz.isAgg24 Tryz.sizeOf24 (vs := [_, _]) rfl (fun _ hs => cells_nth (hs.at (i := 1) rfl) ⟨rfl, ⟨rfl, trivial⟩⟩)) ?_
          refine RunL.still rfl rfl rfl (Still.move rfl rfl) ?_
          refine RunL.still rfl rfl rfl (Still.move rfl rfl) ?_
          refine RunL.still rfl rfl rfl (Still.build_1_1 (fun x0_0 x1_0 => .agg #[x0_0, x1_0]) rfl rfl rfl (fun _ => by kernel_rfl)) ?_
          refine RunL.grows rfl rfl rfl (Grows.call (vs := #[_, _]) rfl rfl Tryz.call88 (fun w hs => ref_OtherCP base A cap d c p w (hd.sym hs) hs0 (by omega) hp4)) (fun _ _ => ?_)
          obtain ⟨z, hz⟩ := get_of_lt (l := xs) (i := otherQ d (4 * c + p) / 4) (by omega)
          refine RunL.grows rfl rfl rfl (Grows.alloc rfl Tryz.zeroValue110) (fun b9 _ => ?_)
          refine RunL.does0 rfl rfl (Does.store rfl rfl rfl (i := 0) rfl Tryz.sizeOf110 rfl (rfl) rfl) (fun _ _ => ?_)
          refine RunL.nil ?_
          refine Ends.then ?_
          refine RunC.seq ?_
          refine RunC.region ?_
          refine RunL.still rfl rfl rfl (Still.move rfl rfl) ?_
          refine RunL.still rfl rfl rfl (Still.fieldAddrL (off := 0) (off' := 0) rfl rfl Tryz.underlying110 rfl Tryz.sizeOf3 rfl) ?_
          refine RunL.still rfl rfl rfl (Still.load rfl rfl Tryz.isAgg3 (fun _ hs => cell_nth (hs.at (i := 0) rfl) rfl)) ?_
          refine RunL.still rfl rfl rfl (Still.indexOwn rfl rfl rfl Tryz.underlying102 Tryz.sizeOf4 (fun _ hs => hs.own (i := 1) rfl) (by omega)) ?_
          refine RunL.still rfl rfl rfl (Still.load rfl rfl Tryz.isAgg4 (fun w hs => own_at (hs.own (i := 1) rfl) (bools_get hz))) ?_
          refine RunL.still rfl rfl rfl (Still.not rfl rfl) ?_
          refine RunL.nil ?_
          refine Ends.then ?_
          refine RunC.cond rfl (fun h46 => ?_) (fun h46 => ?_)
          · have hz0 : z = false := by simpa using h46
            refine RunC.seq ?_
            refine RunC.region ?_
            refine RunL.still rfl rfl rfl (Still.move rfl rfl) ?_
            refine RunL.still rfl rfl rfl (Still.fieldAddrL (off := 0) (off' := 0) rfl rfl Tryz.underlying110 rfl Tryz.sizeOf3 rfl) ?_
            refine RunL.still rfl rfl rfl (Still.load rfl rfl Tryz.isAgg3 (fun _ hs => cell_nth (hs.at (i := 0) rfl) rfl)) ?_
            refine RunL.still rfl rfl rfl (Still.indexOwn rfl rfl rfl Tryz.underlying102 Tryz.sizeOf4 (fun _ hs => hs.own (i := 1) rfl) (by omega)) ?_
            refine RunL.does0 rfl rfl (Does.storeOwn1 (xs' := (bools (xs.set (otherQ d (4 * c + p) / 4) true))) rfl rfl rfl rfl (i := 1) rfl Tryz.sizeOf4 rfl (by simp; omega) (bools_set _ _ _)) (fun _ _ => ?_)
            refine RunL.nil ?_
            refine Ends.then ?_
            refine RunC.region ?_
            refine RunL.still rfl rfl rfl (Still.assign rfl rfl) ?_
            refine RunL.nil ?_
            refine Ends.block ?_
            refine Ends.then ?_
            refine RunC.region ?_
            refine RunL.still rfl rfl rfl (Still.move rfl rfl) ?_
            refine RunL.still rfl rfl rfl (Still.add rfl rfl rfl (fits64 (by omega) (by omega))) ?_
            refine RunL.still rfl rfl rfl (Still.assign rfl rfl) ?_
            refine RunL.nil ?_
            have hca : Conn d a c := hc c (by rw [hy, h33])
            have hfs := falses_set (by rw [hz, hz0])
            refine Ends.again (xs.set (otherQ d (4 * c + p) / 4) true, true, p + 1) ?_ ?_ (Fr.Sub.app ?_ ?_) ?_
            · exact ⟨by show p + 1 ≤ 4; omega, by simpa using hl, by rw [List.getElem?_set]; split <;> simp_all, fun c' h => by rw [List.getElem?_set] at h; split at h; (rename_i e; subst e; exact hca.step hp4); exact hc c' h, fun e => (by cases e), fun _ => (by have h5 : falses xs ≤ falses xs0 := (by cases ag; (rw [(hcl rfl).1]; exact Nat.le_refl _); exact Nat.le_of_lt (hlt rfl)); show falses (xs.set _ true) < falses xs0; omega)⟩
            · show 4 - (p + 1) < 4 - p; omega
            · exact Fr.Sub.cons rfl (Fr.Sub.cons rfl (Fr.Sub.nil _))
            · exact Fr.Sub.cons rfl (Fr.Sub.cons rfl (Fr.Sub.cons rfl (Fr.Sub.nil _)))
            · exact HSub.pick 1 rfl (HSub.pick 1 rfl (HSub.nil _))
          · have hz1 : z = true := by simpa using h46
            refine RunC.skip ?_
            refine Ends.block ?_
            refine Ends.then ?_
            refine RunC.region ?_
            refine RunL.still rfl rfl rfl (Still.move rfl rfl) ?_
            refine RunL.still rfl rfl rfl (Still.add rfl rfl rfl (fits64 (by omega) (by omega))) ?_
            refine RunL.still rfl rfl rfl (Still.assign rfl rfl) ?_
            refine RunL.nil ?_
            refine Ends.again (xs, ag, p + 1) ?_ ?_ (Fr.Sub.app ?_ ?_) ?_
            · exact ⟨by show p + 1 ≤ 4; omega, hl, h0, hc, fun e => ⟨(hcl e).1, (hcl e).2.1, fun p' h => by rcases Nat.lt_or_ge p' p with h2 | h2; exact (hcl e).2.2 p' h2; obtain rfl : p' = p := (by omega); intro _; rw [← (hcl e).1, hz, hz1]⟩, hlt⟩
            · show 4 - (p + 1) < 4 - p; omega
            · exact Fr.Sub.cons rfl (Fr.Sub.cons rfl (Fr.Sub.nil _))
            · exact Fr.Sub.cons rfl (Fr.Sub.cons rfl (Fr.Sub.cons rfl (Fr.Sub.nil _)))
            · exact HSub.pick 1 rfl (HSub.pick 1 rfl (HSub.nil _))
        · skip
          refine RunC.exit ?_
          refine Ends.then_exit ?_
          refine Ends.then_exit ?_
          refine Ends.block_exit ?_
          refine Ends.block ?_
          refine Ends.then ?_
          refine RunC.region ?_
          refine RunL.still rfl rfl rfl (Still.move rfl rfl) ?_
          refine RunL.still rfl rfl rfl (Still.add rfl rfl rfl (fits64 (by omega) (by omega))) ?_
          refine RunL.still rfl rfl rfl (Still.assign rfl rfl) ?_
          refine RunL.nil ?_
          have hp4 : p < 4 := by omega
          refine Ends.again (xs, ag, c + 1) ?_ ?_ (Fr.Sub.app ?_ ?_) ?_
          · exact ⟨by show c + 1 ≤ _; omega, hl, h0, hc, fun e => ⟨(hcl e).1, fun c' p' h1 h2 => by rcases Nat.lt_or_ge c' c with h | h; exact (hcl e).2.1 c' p' h h2; obtain rfl : c' = c := (by omega); intro ht; rw [← (hcl e).1, hy] at ht; cases ht; cases h33⟩, hlt⟩
          · show _ - (c + 1) < _ - c; omega
          · exact Fr.Sub.cons rfl (Fr.Sub.cons rfl (Fr.Sub.nil _))
          · exact Fr.Sub.cons rfl (Fr.Sub.cons rfl (Fr.Sub.nil _))
          · exact HSub.pick 0 rfl (HSub.pick 0 rfl (HSub.nil _))
      · have h28 := of_decide_eq_false h28
        refine RunL.off rfl rfl rfl ?_
        refine RunL.off rfl rfl rfl ?_
        refine RunL.off rfl rfl rfl ?_
        refine RunL.off rfl rfl rfl ?_
        refine RunL.still rfl rfl rfl (Still.pickF rfl rfl rfl) ?_
        refine RunL.nil ?_
        refine Ends.then ?_
        refine RunC.cond_false rfl ?_
        refine RunC.exit ?_
        refine Ends.then_exit ?_
        refine Ends.then_exit ?_
        refine Ends.block_exit ?_
        refine Ends.block ?_
        refine Ends.then ?_
        refine RunC.region ?_
        refine RunL.still rfl rfl rfl (Still.move rfl rfl) ?_
        refine RunL.still rfl rfl rfl (Still.add rfl rfl rfl (fits64 (by omega) (by omega))) ?_
        refine RunL.still rfl rfl rfl (Still.assign rfl rfl) ?_
        refine RunL.nil ?_
        obtain rfl : p = 4 := by omega
        refine Ends.again (xs, ag, c + 1) ?_ ?_ (Fr.Sub.app ?_ ?_) ?_
        · exact ⟨by show c + 1 ≤ _; omega, hl, h0, hc, fun e => ⟨(hcl e).1, fun c' p' h1 h2 => by rcases Nat.lt_or_ge c' c with h | h; exact (hcl e).2.1 c' p' h h2; obtain rfl : c' = c := (by omega); exact (hcl e).2.2 p' h2⟩, hlt⟩
        · show _ - (c + 1) < _ - c; omega
        · exact Fr.Sub.cons rfl (Fr.Sub.cons rfl (Fr.Sub.nil _))
        · exact Fr.Sub.cons rfl (Fr.Sub.cons rfl (Fr.Sub.nil _))
        · exact HSub.pick 0 rfl (HSub.pick 0 rfl (HSub.nil _))
    · have h23 := of_decide_eq_false h23
      refine RunC.exit ?_
      refine Ends.then_exit ?_
      refine Ends.then_exit ?_
      refine Ends.block_exit ?_
      refine Ends.block ?_
      obtain rfl : c = d.cross.length := by omega
      refine Ends.again (xs, ag) ?_ ?_ (Fr.Sub.app ?_ ?_) ?_
      · exact ⟨hl, h0, hc, fun e => by obtain ⟨e1, e2⟩ := hcl e; rw [e1]; exact fun c p h1 h2 => e2 c p h1 h2⟩
      · show 2 * falses xs + _ < 2 * falses xs0 + 1; cases ag; (have := (hcl rfl).1; subst this; simp); (have := hlt rfl; simp; omega)
      · exact Fr.Sub.cons rfl (Fr.Sub.nil _)
      · exact Fr.Sub.cons rfl (Fr.Sub.cons rfl (Fr.Sub.nil _))
      · exact HSub.pick 0 rfl (HSub.pick 0 rfl (HSub.nil _))
  · subst h19
    refine RunC.exit ?_
    refine Ends.then_exit ?_
    refine Ends.then_exit ?_
    refine Ends.block_exit ?_
    refine Ends.then ?_
    refine RunC.seq ?_
    refine RunC.region ?_
    refine RunL.grows rfl rfl rfl (Grows.empty rfl Tryz.underlying36 Tryz.sizeOf3 Tryz.zeroValue3) (fun b51 _ => ?_)
    refine RunL.still rfl rfl rfl (Still.assign rfl rfl) ?_
    refine RunL.nil ?_
    refine Ends.then ?_
    refine RunC.seq ?_
    refine RunC.seq ?_
    refine RunC.region ?_
    refine RunL.still rfl rfl rfl (Still.assign rfl rfl) ?_
    refine RunL.nil ?_
    refine Ends.then ?_
    refine RunC.block ?_
    refine RunC.loop2 (γ := Value × Nat) (keep := [(5, _)]) (hkeep := [_, _]) (fun (v, c) => c ≤ d.cross.length) (fun (v, c) => d.cross.length - c) (fun (v, c) => [(10, v), (11, iv c)]) (fun (v, c) => [HL.own 3 1 v ((List.range c).filter (connB d a)).length (ints (((List.range c).filter (connB d a)).map Int.ofNat))]) (.slice (some ⟨b51, 0, none⟩) 0 0, 0) (by omega) (Fr.Sub.cons rfl (Fr.Sub.cons rfl (Fr.Sub.nil _))) (Fr.Sub.cons rfl (Fr.Sub.nil _)) (HSub.pick 0 rfl (HSub.pick 0 rfl (HSub.pick 0 rfl (HSub.nil _)))) ?_
    rintro ⟨v, c⟩ hcc
    have hfl : ((List.range c).filter (connB d a)).length ≤ c := by have := List.length_filter_le (connB d a) (List.range c); rwa [List.length_range] at this
    refine RunC.seq ?_
    refine RunC.seq ?_
    refine RunC.region ?_
    refine RunL.still rfl rfl rfl (Still.move rfl rfl) ?_
    refine RunL.still rfl rfl rfl (Still.move rfl rfl) ?_
    refine RunL.still rfl rfl rfl (Still.lenOwn rfl rfl Tryz.underlying102 (fun _ hs => hs.own (i := 1) rfl)) ?_
    refine RunL.still rfl rfl rfl (Still.lss rfl rfl rfl) ?_
    refine RunL.nil ?_
    refine Ends.then ?_
    refine RunC.cond rfl (fun h55 => ?_) (fun h55 => ?_)
    · have h55 := of_decide_eq_true h55
      refine RunC.skip ?_
      refine Ends.then ?_
      refine RunC.seq ?_
      refine RunC.block ?_
      refine RunC.seq ?_
      refine RunC.region ?_
      refine RunL.still rfl rfl rfl (Still.move rfl rfl) ?_
      refine RunL.still rfl rfl rfl (Still.move rfl rfl) ?_
      refine RunL.still rfl rfl rfl (Still.indexOwn rfl rfl rfl Tryz.underlying102 Tryz.sizeOf4 (fun _ hs => hs.own (i := 1) rfl) (by omega)) ?_
      refine RunL.still rfl rfl rfl (Still.load rfl rfl Tryz.isAgg4 (fun w hs => own_at (hs.own (i := 1) rfl) (bools_get (closed_conn hs0 ha hl0 h00 hc0 (hcl0 rfl) c (by omega))))) ?_
      refine RunL.nil ?_
      refine Ends.then ?_
      refine RunC.cond rfl (fun h61 => ?_) (fun h61 => ?_)
      · skip
        refine RunC.region ?_
        refine RunL.still rfl rfl rfl (Still.move rfl rfl) ?_
        refine RunL.still rfl rfl rfl (Still.move rfl rfl) ?_
        refine RunL.grows rfl rfl rfl (Grows.slice1 rfl rfl Tryz.underlying36 Tryz.sizeOf3 rfl Tryz.zeroValue3 (by decide)) (fun b64 _ => ?_)
        refine RunL.does rfl rfl rfl (Does.appendTo (n' := (((List.range c).filter (connB d a)).length + 1)) (xs' := (ints ((((List.range c).filter (connB d a)).map Int.ofNat) ++ [(c : Int)]))) (news := [_]) rfl rfl rfl rfl (i := 1) rfl Tryz.underlying36 (by kernel_rfl : (_ : Option _) = some (some (.int .i64 0), 1, 8)) rfl rfl (fun _ hs => cells_nth (hs.at (i := 0) rfl) ⟨rfl, trivial⟩) rfl rfl (by omega) (by omega) (rfl) (ints_snoc _ _)) (fun v65 hv65 => ?_)
        refine RunL.still rfl rfl rfl (Still.assign rfl rfl) ?_
        refine RunL.nil ?_
        refine Ends.block ?_
        refine Ends.then ?_
        refine RunC.region ?_
        refine RunL.still rfl rfl rfl (Still.move rfl rfl) ?_
        refine RunL.still rfl rfl rfl (Still.add rfl rfl rfl (fits64 (by omega) (by omega))) ?_
        refine RunL.still rfl rfl rfl (Still.assign rfl rfl) ?_
        refine RunL.nil ?_
        refine Ends.again (v65, c + 1) ?_ ?_ (Fr.Sub.app ?_ ?_) ?_
        · show c + 1 ≤ _; omega
        · show _ - (c + 1) < _ - c; omega
        · exact Fr.Sub.cons rfl (Fr.Sub.cons rfl (Fr.Sub.nil _))
        · exact Fr.Sub.cons rfl (Fr.Sub.nil _)
        · exact HSub.pick 1 (by have e : (List.range (c + 1)).filter (connB d a) = (List.range c).filter (connB d a) ++ [c] := (by rw [List.range_succ, List.filter_append]; simp [h61]); rw [e, List.length_append, List.map_append]; rfl) (HSub.pick 1 rfl (HSub.pick 1 rfl (HSub.nil _)))
      · skip
        refine RunC.skip ?_
        refine Ends.block ?_
        refine Ends.then ?_
        refine RunC.region ?_
        refine RunL.still rfl rfl rfl (Still.move rfl rfl) ?_
        refine RunL.still rfl rfl rfl (Still.add rfl rfl rfl (fits64 (by omega) (by omega))) ?_
        refine RunL.still rfl rfl rfl (Still.assign rfl rfl) ?_
        refine RunL.nil ?_
        refine Ends.again (v, c + 1) ?_ ?_ (Fr.Sub.app ?_ ?_) ?_
        · show c + 1 ≤ _; omega
        · show _ - (c + 1) < _ - c; omega
        · exact Fr.Sub.cons rfl (Fr.Sub.cons rfl (Fr.Sub.nil _))
        · exact Fr.Sub.cons rfl (Fr.Sub.nil _)
        · exact HSub.pick 0 (by have e : (List.range (c + 1)).filter (connB d a) = (List.range c).filter (connB d a) := (by rw [List.range_succ, List.filter_append]; simp [h61]); rw [e]; rfl) (HSub.pick 0 rfl (HSub.pick 0 rfl (HSub.nil _)))
    · have h55 := of_decide_eq_false h55
      obtain rfl : c = d.cross.length := by omega
      refine RunC.exit ?_
      refine Ends.then_exit ?_
      refine Ends.then_exit ?_
      refine Ends.block_exit ?_
      refine Ends.then ?_
      refine RunC.seq ?_
      refine RunC.region ?_
      refine RunL.still rfl rfl rfl (Still.move rfl rfl) ?_
      refine RunL.still rfl rfl rfl (Still.assign rfl rfl) ?_
      refine RunL.nil ?_
      refine Ends.then ?_
      refine RunC.ret ?_
      refine Ends.leave (.inl rfl) (fun _ _ ok => results1 Tryz.results51 (Holds.tmp rfl) ok) (fun w1 hs => ?_)
      exact Ret.intro v (own_shape (hs.own (i := 0) rfl)) rfl (HSub.pick 0 rfl (HSub.nil _)) hs

theorem ref_Planar (base : Option Addr) (A : Addr) (cap : Nat) (d : Dia) (w : World) (hd : DiaAt w base A d) (hs0 : SoundP d) : Gives Tryz.prog 35 #[diaV base cap d] w Nil (fun _ : Unit => True) (fun _ => .bool (planarB d)) (fun _ => []) := by
  have h200 := hs0.1
  refine fn_of_run (S := Nil) (args := [diaV base cap d]) (n := 57) (L := []) Tryz.func35 rfl Tryz.ntmps35 (Nat.le_of_ble_eq_true rfl) (Sym.nil _ _) ?_
  change RunC _ _ _ [(0, _)] _
  refine RunC.seq ?_
  refine RunC.region ?_
  refine RunL.grows rfl rfl rfl (Grows.box rfl rfl) (fun b1 _ => ?_)
  refine RunL.still rfl rfl rfl (Still.assign rfl rfl) ?_
  refine RunL.nil ?_
  refine Ends.then ?_
  refine RunC.seq ?_
  refine RunC.region ?_
  refine RunL.still rfl rfl rfl (Still.loads rfl rfl Tryz.isAgg24 Tryz.sizeOf24 (vs := [_, _]) rfl (fun _ hs => cells_nth (hs.at (i := 0) rfl) ⟨rfl, ⟨rfl, trivial⟩⟩)) ?_
  refine RunL.grows rfl rfl rfl (Grows.call (vs := #[_]) rfl rfl Tryz.call73 (fun w hs => ref_Regions base A cap d w (hd.sym hs) hs0)) (fun ⟨vr, rs⟩ hrs => ?_)
  obtain ⟨hrs1, hrs2⟩ := hrs
  change rs.map Prod.snd = _ at hrs1
  change ∀ a ∈ rs, _ at hrs2
  have hrl := regsTo_as_len hrs1
  have hvr : (vr, rs).2.length = rs.length := rfl
  refine RunL.still rfl rfl rfl (Still.assign rfl rfl) ?_
  refine RunL.nil ?_
  refine Ends.then ?_
  refine RunC.seq ?_
  refine RunC.seq ?_
  refine RunC.region ?_
  refine RunL.still rfl rfl rfl (Still.assign rfl rfl) ?_
  refine RunL.nil ?_
  refine Ends.then ?_
  refine RunC.block ?_
  refine RunC.loop2 (γ := Nat) (keep := [(1, _), (3, _)]) (hkeep := [_, _, _]) (fun c => c ≤ d.cross.length ∧ ∀ c', c' < c → cntReg d c' = (pieceOf d c').length + 2) (fun c => d.cross.length - c) (fun c => [(4, iv c)]) (fun c => []) 0 ⟨by omega, fun c h => by omega⟩ (Fr.Sub.cons rfl (Fr.Sub.nil _)) (Fr.Sub.cons rfl (Fr.Sub.cons rfl (Fr.Sub.nil _))) (HSub.pick 0 rfl (HSub.pick 0 rfl (HSub.pick 0 rfl (HSub.nil _)))) ?_
  rintro c ⟨hc, hpl⟩
  refine RunC.seq ?_
  refine RunC.seq ?_
  refine RunC.region ?_
  refine RunL.still rfl rfl rfl (Still.move rfl rfl) ?_
  refine RunL.still rfl rfl rfl (Still.fieldAddrL (off := 0) (off' := 0) rfl rfl Tryz.underlying24 rfl Tryz.sizeOf22 rfl) ?_
  refine RunL.still rfl rfl rfl (Still.load rfl rfl Tryz.isAgg22 (fun _ hs => cell_nth (hs.at (i := 2) rfl) rfl)) ?_
  refine RunL.still rfl rfl rfl (Still.lenSlice rfl rfl Tryz.underlying22) ?_
  refine RunL.still rfl rfl rfl (Still.lss rfl rfl rfl) ?_
  refine RunL.nil ?_
  refine Ends.then ?_
  refine RunC.cond rfl (fun h15 => ?_) (fun h15 => ?_)
  · have h15 := of_decide_eq_true h15
    refine RunC.skip ?_
    refine Ends.then ?_
    refine RunC.seq ?_
    refine RunC.block ?_
    refine RunC.seq ?_
    refine RunC.region ?_
    refine RunL.still rfl rfl rfl (Still.loads rfl rfl Tryz.isAgg24 Tryz.sizeOf24 (vs := [_, _]) rfl (fun _ hs => cells_nth (hs.at (i := 2) rfl) ⟨rfl, ⟨rfl, trivial⟩⟩)) ?_
    refine RunL.still rfl rfl rfl (Still.move rfl rfl) ?_
    refine RunL.grows rfl rfl rfl (Grows.call (vs := #[_, _]) rfl rfl Tryz.call51 (fun w hs => ref_Piece base A cap d c w (hd.sym hs) hs0 (by omega))) (fun vp hvp => ?_)
    obtain ⟨m, hm⟩ := piece_first d (c := c) (by omega)
    have hpl2 := piece_len d c
    have hm0 : 0 < (pieceOf d c).length := (List.getElem?_eq_some_iff.1 hm).1
    refine RunL.still rfl rfl rfl (Still.assign rfl rfl) ?_
    refine RunL.nil ?_
    refine Ends.then ?_
    refine RunC.seq ?_
    refine RunC.seq ?_
    refine RunC.region ?_
    refine RunL.still rfl rfl rfl (Still.move rfl rfl) ?_
    refine RunL.still rfl rfl rfl (Still.indexOwn rfl rfl rfl Tryz.underlying36 Tryz.sizeOf3 (fun _ hs => hs.own (i := 0) rfl) (by omega)) ?_
    refine RunL.still rfl rfl rfl (Still.load rfl rfl Tryz.isAgg3 (fun w hs => own_at (hs.own (i := 0) rfl) (ints_get (m := 0) (y := (m : Int)) (by simp [hm])))) ?_
    refine RunL.still rfl rfl rfl (Still.move rfl rfl) ?_
    refine RunL.still rfl rfl rfl (Still.neq rfl rfl rfl) ?_
    refine RunL.nil ?_
    refine Ends.then ?_
    refine RunC.cond rfl (fun h25 => ?_) (fun h25 => ?_)
    · have h25 := of_decide_eq_true h25
      refine RunC.exit ?_
      refine Ends.then_exit ?_
      refine Ends.block_exit ?_
      refine Ends.then ?_
      refine RunC.region ?_
      refine RunL.still rfl rfl rfl (Still.move rfl rfl) ?_
      refine RunL.still rfl rfl rfl (Still.add rfl rfl rfl (fits64 (by omega) (by omega))) ?_
      refine RunL.still rfl rfl rfl (Still.assign rfl rfl) ?_
      refine RunL.nil ?_
      refine Ends.again (c + 1) ?_ ?_ (Fr.Sub.app ?_ ?_) ?_
      · exact ⟨by omega, fun c' h => by rcases Nat.lt_or_ge c' c with h2 | h2; exact hpl c' h2; obtain rfl : c' = c := (by omega); exact planar_other hs0 (by omega) hm hpl h25⟩
      · show _ < _; omega
      · exact Fr.Sub.cons rfl (Fr.Sub.nil _)
      · exact Fr.Sub.cons rfl (Fr.Sub.cons rfl (Fr.Sub.nil _))
      · exact HSub.pick 1 rfl (HSub.pick 1 rfl (HSub.pick 1 rfl (HSub.nil _)))
    · have h25 := of_decide_eq_false h25
      refine RunC.skip ?_
      refine Ends.then ?_
      refine RunC.seq ?_
      refine RunC.region ?_
      refine RunL.still rfl rfl rfl (Still.assign rfl rfl) ?_
      refine RunL.nil ?_
      refine Ends.then ?_
      refine RunC.seq ?_
      refine RunC.seq ?_
      refine RunC.region ?_
      refine RunL.still rfl rfl rfl (Still.assign rfl rfl) ?_
      refine RunL.nil ?_
      refine Ends.then ?_
      refine RunC.block ?_
      refine RunC.loop2 (γ := Nat) (keep := [(1, _), (3, _), (4, _), (5, _)]) (hkeep := [_, _, _, _]) (fun i => i ≤ rs.length) (fun i => rs.length - i) (fun i => [(6, iv (((rs.take i).filter fun a => connB d c (a.2.headD 0 / 4)).length : Nat)), (7, iv i)]) (fun i => []) 0 (by omega) (Fr.Sub.cons rfl (Fr.Sub.cons rfl (Fr.Sub.nil _))) (Fr.Sub.cons rfl (Fr.Sub.cons rfl (Fr.Sub.cons rfl (Fr.Sub.cons rfl (Fr.Sub.nil _))))) (HSub.pick 0 rfl (HSub.pick 0 rfl (HSub.pick 0 rfl (HSub.pick 0 rfl (HSub.nil _))))) ?_
      rintro i hi
      have hfi : ((rs.take i).filter fun a => connB d c (a.2.headD 0 / 4)).length ≤ i := by have h1 := List.length_filter_le (fun a : Value × List Nat => connB d c (a.2.headD 0 / 4)) (rs.take i); have h2 := List.length_take_le i rs; omega
      refine RunC.seq ?_
      refine RunC.seq ?_
      refine RunC.region ?_
      refine RunL.still rfl rfl rfl (Still.move rfl rfl) ?_
      refine RunL.still rfl rfl rfl (Still.move rfl rfl) ?_
      refine RunL.still rfl rfl rfl (Still.lenOwn rfl rfl Tryz.underlying45 (fun _ hs => hs.own (i := 1) rfl)) ?_
      refine RunL.still rfl rfl rfl (Still.lss rfl rfl rfl) ?_
      refine RunL.nil ?_
      refine Ends.then ?_
      refine RunC.cond rfl (fun h29 => ?_) (fun h29 => ?_)
      · have h29 := of_decide_eq_true h29
        obtain ⟨a, ha⟩ := get_of_lt (l := rs) (i := i) (by omega)
        have hra := hrs2 a (List.mem_of_getElem? ha)
        obtain ⟨hq4, ha0⟩ := regs_head hrs1 (Nat.le_refl _) (List.mem_of_getElem? ha)
        have ha00 : 0 < a.2.length := (List.getElem?_eq_some_iff.1 ha0).1
        refine RunC.skip ?_
        refine Ends.then ?_
        refine RunC.seq ?_
        refine RunC.block ?_
        refine RunC.seq ?_
        refine RunC.region ?_
        refine RunL.still rfl rfl rfl (Still.assign rfl rfl) ?_
        refine RunL.nil ?_
        refine Ends.then ?_
        refine RunC.block ?_
        refine RunC.loop2 (γ := Nat) (keep := [(1, _), (3, _), (4, _), (5, _), (7, _)]) (hkeep := [_, _, _, _]) (fun k => k ≤ (pieceOf d c).length) (fun k => (pieceOf d c).length - k) (fun k => [(6, iv ((((rs.take i).filter fun a => connB d c (a.2.headD 0 / 4)).length + (bif ((pieceOf d c).take k).contains (a.2.headD 0 / 4) then 1 else 0) : Nat) : Int)), (8, iv k)]) (fun k => []) 0 (by omega) (Fr.Sub.cons rfl (Fr.Sub.cons rfl (Fr.Sub.nil _))) (Fr.Sub.cons rfl (Fr.Sub.cons rfl (Fr.Sub.cons rfl (Fr.Sub.cons rfl (Fr.Sub.cons rfl (Fr.Sub.nil _)))))) (HSub.pick 0 rfl (HSub.pick 0 rfl (HSub.pick 0 rfl (HSub.pick 0 rfl (HSub.nil _))))) ?_
        rintro k hk
        have hbb : (bif ((pieceOf d c).take k).contains (a.2.headD 0 / 4) then 1 else 0) ≤ 1 := by cases ((pieceOf d c).take k).contains (a.2.headD 0 / 4) <;> decide
        refine RunC.seq ?_
        refine RunC.seq ?_
        refine RunC.region ?_
        refine RunL.still rfl rfl rfl (Still.move rfl rfl) ?_
        refine RunL.still rfl rfl rfl (Still.move rfl rfl) ?_
        refine RunL.still rfl rfl rfl (Still.lenOwn rfl rfl Tryz.underlying36 (fun _ hs => hs.own (i := 0) rfl)) ?_
        refine RunL.still rfl rfl rfl (Still.lss rfl rfl rfl) ?_
        refine RunL.nil ?_
        refine Ends.then ?_
        refine RunC.cond rfl (fun h35 => ?_) (fun h35 => ?_)
        · have h35 := of_decide_eq_true h35
          obtain ⟨y, hy⟩ := get_of_lt (l := pieceOf d c) (i := k) (by omega)
          refine RunC.skip ?_
          refine Ends.then ?_
          refine RunC.seq ?_
          refine RunC.block ?_
          refine RunC.seq ?_
          refine RunC.draw 11 (.still 0 (.still 1 (.still 2 (.still 3 (.still 4 (.still 5 (.still 6 (.still 7 (.still 8 (.still 9 (.still 10 .done))))))))))) (by kernel_rfl) (by kernel_rfl) ?_
          refine RunG.still rfl rfl rfl rfl (Still.move rfl rfl) ?_
          refine RunG.still rfl rfl rfl rfl (Still.move rfl rfl) ?_
          refine RunG.still rfl rfl rfl rfl (Still.indexOwn rfl rfl rfl Tryz.underlying45 Tryz.sizeOf113 (fun _ hs => hs.own (i := 1) rfl) (by omega)) ?_
          refine RunG.still rfl rfl rfl rfl (Still.load rfl rfl Tryz.isAgg113 (fun w hs => own_at (hs.own (i := 1) rfl) (fst_get ha))) ?_
          refine RunG.still rfl rfl rfl rfl (Still.indexV _ rfl rfl rfl Tryz.underlying113 Tryz.sizeOf110 (hra) (rfl) (by omega)) ?_
          refine RunG.still rfl rfl rfl rfl (Still.fieldAddrA (off := 0) rfl rfl Tryz.underlying110 rfl Tryz.sizeOf3 rfl) ?_
          refine RunG.still rfl rfl rfl rfl (Still.load rfl rfl Tryz.isAgg3 (fun _ hs => cells_at2 (own_all (rows_get (mk := regHL) (hs.at (i := 2) rfl) ha)) (encQ_at (m := 0) (q := a.2.headD 0) ha0 0 _ rfl))) ?_
          refine RunG.still rfl rfl rfl rfl (Still.move rfl rfl) ?_
          refine RunG.still rfl rfl rfl rfl (Still.move rfl rfl) ?_
          refine RunG.still rfl rfl rfl rfl (Still.indexOwn rfl rfl rfl Tryz.underlying36 Tryz.sizeOf3 (fun _ hs => hs.own (i := 0) rfl) (by omega)) ?_
          refine RunG.still rfl rfl rfl rfl (Still.load rfl rfl Tryz.isAgg3 (fun w hs => own_at (hs.own (i := 0) rfl) (ints_get (m := k) (y := (y : Int)) (by simp [hy])))) ?_
          refine RunG.done ?_
          show RunL _ _ _ [_] _ _
          refine RunL.still rfl rfl rfl (Still.eql rfl rfl rfl) ?_
          refine RunL.nil ?_
          refine Ends.then ?_
          refine RunC.cond rfl (fun h49 => ?_) (fun h49 => ?_)
          · have h49 := of_decide_eq_true h49
            refine RunC.region ?_
            refine RunL.still rfl rfl rfl (Still.move rfl rfl) ?_
            refine RunL.still rfl rfl rfl (Still.add rfl rfl rfl (fits64 (by omega) (by omega))) ?_
            refine RunL.still rfl rfl rfl (Still.assign rfl rfl) ?_
            refine RunL.nil ?_
            refine Ends.block ?_
            refine Ends.then ?_
            refine RunC.region ?_
            refine RunL.still rfl rfl rfl (Still.move rfl rfl) ?_
            refine RunL.still rfl rfl rfl (Still.add rfl rfl rfl (fits64 (by omega) (by omega))) ?_
            refine RunL.still rfl rfl rfl (Still.assign rfl rfl) ?_
            refine RunL.nil ?_
            refine Ends.again (k + 1) ?_ ?_ (Fr.Sub.app ?_ ?_) ?_
            · show _; omega
            · show _ < _; omega
            · exact Fr.Sub.cons (by rw [take_has hy, decide_eq_true (show a.2.headD 0 / 4 = y by omega), take_fresh (piece_nodup d c) hy (show a.2.headD 0 / 4 = y by omega)]; rfl) (Fr.Sub.cons rfl (Fr.Sub.nil _))
            · exact Fr.Sub.cons rfl (Fr.Sub.cons rfl (Fr.Sub.cons rfl (Fr.Sub.cons rfl (Fr.Sub.cons rfl (Fr.Sub.nil _)))))
            · exact HSub.pick 0 rfl (HSub.pick 0 rfl (HSub.pick 0 rfl (HSub.pick 0 rfl (HSub.nil _))))
          · have h49 := of_decide_eq_false h49
            refine RunC.skip ?_
            refine Ends.block ?_
            refine Ends.then ?_
            refine RunC.region ?_
            refine RunL.still rfl rfl rfl (Still.move rfl rfl) ?_
            refine RunL.still rfl rfl rfl (Still.add rfl rfl rfl (fits64 (by omega) (by omega))) ?_
            refine RunL.still rfl rfl rfl (Still.assign rfl rfl) ?_
            refine RunL.nil ?_
            refine Ends.again (k + 1) ?_ ?_ (Fr.Sub.app ?_ ?_) ?_
            · show _; omega
            · show _ < _; omega
            · exact Fr.Sub.cons (by rw [take_has hy, decide_eq_false (show ¬ a.2.headD 0 / 4 = y by omega), Bool.or_false]; rfl) (Fr.Sub.cons rfl (Fr.Sub.nil _))
            · exact Fr.Sub.cons rfl (Fr.Sub.cons rfl (Fr.Sub.cons rfl (Fr.Sub.cons rfl (Fr.Sub.cons rfl (Fr.Sub.nil _)))))
            · exact HSub.pick 0 rfl (HSub.pick 0 rfl (HSub.pick 0 rfl (HSub.pick 0 rfl (HSub.nil _))))
        · have h35 := of_decide_eq_false h35
          refine RunC.exit ?_
          refine Ends.then_exit ?_
          refine Ends.then_exit ?_
          refine Ends.block_exit ?_
          refine Ends.block ?_
          refine Ends.then ?_
          refine RunC.region ?_
          refine RunL.still rfl rfl rfl (Still.move rfl rfl) ?_
          refine RunL.still rfl rfl rfl (Still.add rfl rfl rfl (fits64 (by omega) (by omega))) ?_
          refine RunL.still rfl rfl rfl (Still.assign rfl rfl) ?_
          refine RunL.nil ?_
          refine Ends.again (i + 1) ?_ ?_ (Fr.Sub.app ?_ ?_) ?_
          · show _; omega
          · show _ < _; omega
          · exact Fr.Sub.cons (by rw [List.take_add_one, ha, List.filter_append, List.length_append, show (pieceOf d c).take k = pieceOf d c from List.take_of_length_le (by omega), piece_has hq4]; simp only [Option.toList, List.filter_cons, List.filter_nil]; cases connB d c (a.2.headD 0 / 4) <;> rfl) (Fr.Sub.cons rfl (Fr.Sub.nil _))
          · exact Fr.Sub.cons rfl (Fr.Sub.cons rfl (Fr.Sub.cons rfl (Fr.Sub.cons rfl (Fr.Sub.nil _))))
          · exact HSub.pick 0 rfl (HSub.pick 0 rfl (HSub.pick 0 rfl (HSub.pick 0 rfl (HSub.nil _))))
      · have h29 := of_decide_eq_false h29
        refine RunC.exit ?_
        refine Ends.then_exit ?_
        refine Ends.then_exit ?_
        refine Ends.block_exit ?_
        refine Ends.then ?_
        refine RunC.seq ?_
        refine RunC.region ?_
        refine RunL.still rfl rfl rfl (Still.move rfl rfl) ?_
        refine RunL.still rfl rfl rfl (Still.move rfl rfl) ?_
        refine RunL.still rfl rfl rfl (Still.lenOwn rfl rfl Tryz.underlying36 (fun _ hs => hs.own (i := 0) rfl)) ?_
        refine RunL.still rfl rfl rfl (Still.add rfl rfl rfl (fits64 (by omega) (by omega))) ?_
        refine RunL.still rfl rfl rfl (Still.neq rfl rfl rfl) ?_
        refine RunL.nil ?_
        refine Ends.then ?_
        refine RunC.cond rfl (fun h56 => ?_) (fun h56 => ?_)
        · have h56 := of_decide_eq_true h56
          refine RunC.seq ?_
          refine RunC.region ?_
          refine RunL.still rfl rfl rfl (Still.assign rfl rfl) ?_
          refine RunL.nil ?_
          refine Ends.then ?_
          refine RunC.ret ?_
          refine Ends.block_ret ?_
          refine Ends.then_ret ?_
          refine Ends.then_ret ?_
          refine Ends.block_ret ?_
          refine Ends.then_ret ?_
          refine Ends.leave (.inl rfl) (fun _ _ ok => results1 Tryz.results35 (Holds.tmp rfl) ok) (fun w1 hs => ?_)
          exact Ret.intro () trivial (planarB_false (fun h => by have h1 := h c (by omega); rw [cntReg_rs hrs1] at h1; rw [List.take_of_length_le (by omega)] at h56; omega)) (HSub.nil _) hs
        · have h56 := of_decide_eq_false h56
          refine RunC.skip ?_
          refine Ends.block ?_
          refine Ends.then ?_
          refine RunC.region ?_
          refine RunL.still rfl rfl rfl (Still.move rfl rfl) ?_
          refine RunL.still rfl rfl rfl (Still.add rfl rfl rfl (fits64 (by omega) (by omega))) ?_
          refine RunL.still rfl rfl rfl (Still.assign rfl rfl) ?_
          refine RunL.nil ?_
          have h1 := cntReg_rs hrs1 c
          rw [List.take_of_length_le (by omega)] at h56
          refine Ends.again (c + 1) ?_ ?_ (Fr.Sub.app ?_ ?_) ?_
          · exact ⟨by omega, fun c' h => by rcases Nat.lt_or_ge c' c with h2 | h2; exact hpl c' h2; obtain rfl : c' = c := (by omega); omega⟩
          · show _ < _; omega
          · exact Fr.Sub.cons rfl (Fr.Sub.nil _)
          · exact Fr.Sub.cons rfl (Fr.Sub.cons rfl (Fr.Sub.nil _))
          · exact HSub.pick 1 rfl (HSub.pick 1 rfl (HSub.pick 1 rfl (HSub.nil _)))
  · have h15 := of_decide_eq_false h15
    obtain rfl : c = d.cross.length := by omega
    refine RunC.exit ?_
    refine Ends.then_exit ?_
    refine Ends.then_exit ?_
    refine Ends.block_exit ?_
    refine Ends.then ?_
    refine RunC.seq ?_
    refine RunC.region ?_
    refine RunL.still rfl rfl rfl (Still.assign rfl rfl) ?_
    refine RunL.nil ?_
    refine Ends.then ?_
    refine RunC.ret ?_
    refine Ends.leave (.inl rfl) (fun _ _ ok => results1 Tryz.results35 (Holds.tmp rfl) ok) (fun w2 hs => ?_)
    exact Ret.intro () trivial (planarB_true (fun c h => hpl c h)) (HSub.nil _) hs

theorem ref_Check (base : Option Addr) (A : Addr) (cap : Nat) (d : Dia) (w : World) (hd : DiaAt w base A d) : Gives Tryz.prog 8 #[diaV base cap d] w Nil (fun _ : Unit => True) (fun _ => iv (checkI d)) (fun _ => []) := by
  refine fn_of_run (S := Nil) (args := [diaV base cap d]) (n := 9) (L := []) Tryz.func8 rfl Tryz.ntmps8 (Nat.le_of_ble_eq_true rfl) (Sym.nil _ _) ?_
  change RunC _ _ _ [(0, _)] _
  refine RunC.seq ?_
  refine RunC.region ?_
  refine RunL.grows rfl rfl rfl (Grows.box rfl rfl) (fun b1 _ => ?_)
  refine RunL.still rfl rfl rfl (Still.assign rfl rfl) ?_
  refine RunL.nil ?_
  refine Ends.then ?_
  refine RunC.seq ?_
  refine RunC.seq ?_
  refine RunC.region ?_
  refine RunL.still rfl rfl rfl (Still.loads rfl rfl Tryz.isAgg24 Tryz.sizeOf24 (vs := [_, _]) rfl (fun _ hs => cells_nth (hs.at (i := 0) rfl) ⟨rfl, ⟨rfl, trivial⟩⟩)) ?_
  refine RunL.grows rfl rfl rfl (Grows.call (vs := #[_]) rfl rfl Tryz.call34 (fun w hs => ref_Sound base A cap d w (hd.sym hs))) (fun _ _ => ?_)
  refine RunL.still rfl rfl rfl (Still.not rfl rfl) ?_
  refine RunL.nil ?_
  refine Ends.then ?_
  refine RunC.cond rfl (fun h5 => ?_) (fun h5 => ?_)
  · have hS : soundB d = false := by simpa using h5
    refine RunC.seq ?_
    refine RunC.region ?_
    refine RunL.still rfl rfl rfl (Still.assign rfl rfl) ?_
    refine RunL.nil ?_
    refine Ends.then ?_
    refine RunC.ret ?_
    refine Ends.then_ret ?_
    refine Ends.leave (.inl rfl) (fun _ _ ok => results1 Tryz.results8 (Holds.tmp rfl) ok) (fun w1 hs => ?_)
    exact Ret.intro () trivial (by rw [checkI, hS]; rfl) (HSub.nil _) hs
  · have hS : soundB d = true := by simpa using h5
    refine RunC.skip ?_
    refine Ends.then ?_
    refine RunC.seq ?_
    refine RunC.seq ?_
    refine RunC.region ?_
    refine RunL.still rfl rfl rfl (Still.loads rfl rfl Tryz.isAgg24 Tryz.sizeOf24 (vs := [_, _]) rfl (fun _ hs => cells_nth (hs.at (i := 0) rfl) ⟨rfl, ⟨rfl, trivial⟩⟩)) ?_
    refine RunL.grows rfl rfl rfl (Grows.call (vs := #[_]) rfl rfl Tryz.call35 (fun w hs => ref_Planar base A cap d w (hd.sym hs) (soundB_iff.1 hS))) (fun _ _ => ?_)
    refine RunL.still rfl rfl rfl (Still.not rfl rfl) ?_
    refine RunL.nil ?_
    refine Ends.then ?_
    refine RunC.cond rfl (fun h8 => ?_) (fun h8 => ?_)
    · have hP : planarB d = false := by simpa using h8
      refine RunC.seq ?_
      refine RunC.region ?_
      refine RunL.still rfl rfl rfl (Still.assign rfl rfl) ?_
      refine RunL.nil ?_
      refine Ends.then ?_
      refine RunC.ret ?_
      refine Ends.then_ret ?_
      refine Ends.leave (.inl rfl) (fun _ _ ok => results1 Tryz.results8 (Holds.tmp rfl) ok) (fun w2 hs => ?_)
      exact Ret.intro () trivial (by rw [checkI, hS, hP]; rfl) (HSub.nil _) hs
    · have hP : planarB d = true := by simpa using h8
      refine RunC.skip ?_
      refine Ends.then ?_
      refine RunC.seq ?_
      refine RunC.region ?_
      refine RunL.still rfl rfl rfl (Still.assign rfl rfl) ?_
      refine RunL.nil ?_
      refine Ends.then ?_
      refine RunC.ret ?_
      refine Ends.leave (.inl rfl) (fun _ _ ok => results1 Tryz.results8 (Holds.tmp rfl) ok) (fun w3 hs => ?_)
      exact Ret.intro () trivial (by rw [checkI, hS, hP]; rfl) (HSub.nil _) hs

end Go.Proofs
/- Lists of numbers as arguments. -/
namespace Go.V
open Go
abbrev lisV (base : Option Addr) (cap : Nat) (xs : List Int) : Value := .slice base xs.length cap
structure IntsAt (w : World) (base : Option Addr) (A : Addr) (cap : Nat) (xs : List Int) : Prop where
  base : 0 < xs.length → base = some A
  cell : Cells w A (ints xs)
  le : xs.length ≤ cap
  len : cap ≤ 9223372036854775807
theorem IntsAt.old {w w' : World} {base : Option Addr} {A : Addr} {cap : Nat} {xs : List Int} (h : IntsAt w base A cap xs) (ho : Old Nil w w') : IntsAt w' base A cap xs := ⟨h.base, fun j v hj => ho.cell (h.cell j v hj) (fun x => x), h.le, h.len⟩
theorem IntsAt.sym {w w' : World} {L : List HL} {base : Option Addr} {A : Addr} {cap : Nat} {xs : List Int} (h : IntsAt w base A cap xs) (hs : Sym w Nil L w') : IntsAt w' base A cap xs := h.old hs.old
theorem IntsAt.shape {w : World} {base : Option Addr} {A : Addr} {cap : Nat} {xs : List Int} (h : IntsAt w base A cap xs) : Shape (lisV base cap xs) xs.length := shape_slice h.base
theorem IntsAt.cells {w : World} {base : Option Addr} {A : Addr} {cap : Nat} {xs : List Int} (h : IntsAt w base A cap xs) (n : Nat) : Cells w (vaddr (.slice base n cap)) (ints xs) := by
  rcases Nat.eq_zero_or_pos xs.length with h0 | h0
  · rw [List.length_eq_zero_iff.1 h0]; exact fun j v hj => by simp [ints] at hj
  · rw [h.base h0]; exact h.cell
theorem IntsAt.pre {w : World} {base : Option Addr} {A : Addr} {cap : Nat} {xs : List Int} (h : IntsAt w base A cap xs) {i : Nat} (hi : i ≤ xs.length) : Shape (.slice base i cap) (xs.take i).length ∧ Cells w (vaddr (.slice base i cap)) (ints (xs.take i)) := by
  have hl : (xs.take i).length = i := by simp; omega
  rw [hl]
  refine ⟨shape_slice (A := A) fun h0 => h.base (by omega), fun j v hj => h.cells i j v ?_⟩
  simp only [ints, List.getElem?_map, List.getElem?_take] at hj ⊢
  split at hj
  · exact hj
  · simp at hj
def distB (xs : List Int) (n : Int) : Bool := decide (xs.Nodup ∧ ∀ x ∈ xs, 0 ≤ x ∧ x < n)
theorem nodup_take_succ {xs : List Int} {i : Nat} {y : Int} (hy : xs[i]? = some y) (h : (xs.take i).Nodup) (hn : y ∉ xs.take i) : (xs.take (i + 1)).Nodup := by
  rw [List.take_add_one, hy]
  simp only [Option.toList_some]
  rw [List.nodup_append]
  refine ⟨h, by simp, fun a ha b hb e => ?_⟩
  rw [List.mem_singleton.1 hb] at e
  exact hn (e ▸ ha)
theorem not_nodup {xs : List Int} {i : Nat} {y : Int} (hy : xs[i]? = some y) (hm : y ∈ xs.take i) : ¬ xs.Nodup := fun h => by
  obtain ⟨j, hj⟩ := List.getElem?_of_mem hm
  have hji : j < i := by have := (List.getElem?_eq_some_iff.1 hj).1; simp at this; omega
  rw [List.getElem?_take_of_lt hji] at hj
  obtain ⟨h1, e1⟩ := List.getElem?_eq_some_iff.1 hj
  obtain ⟨h2, e2⟩ := List.getElem?_eq_some_iff.1 hy
  exact (List.pairwise_iff_getElem.1 (List.nodup_iff_pairwise_ne.1 h)) j i h1 h2 hji (e1.trans e2.symm)
/-! ### Reversal -/
def revB (lo hi : Bool) (x : Cr) : Cr := ⟨if lo then x.a2 else x.a0, if lo then x.a3 else x.a1, if lo then x.a0 else x.a2, if lo then x.a1 else x.a3, if lo == hi then x.s else -x.s⟩
def revCr (of comps : List Int) (x : Cr) : Cr := revB (decide (of.getD x.a0.toNat 0 ∈ comps)) (decide (of.getD x.a1.toNat 0 ∈ comps)) x
theorem rev_tt {lo hi : Bool} {x : Cr} (h : lo = true) (k : (!(lo == hi)) = true) : [iv x.a2, iv x.a3, iv x.a0, iv x.a1, iv (-x.s)] = encCr (revB lo hi x) := by subst h; cases hi <;> simp_all [revB, encCr]
theorem rev_tf {lo hi : Bool} {x : Cr} (h : lo = true) (k : (!(lo == hi)) = false) : [iv x.a2, iv x.a3, iv x.a0, iv x.a1, iv x.s] = encCr (revB lo hi x) := by subst h; cases hi <;> simp_all [revB, encCr]
theorem rev_ft {lo hi : Bool} {x : Cr} (h : lo = false) (k : (!(lo == hi)) = true) : [iv x.a0, iv x.a1, iv x.a2, iv x.a3, iv (-x.s)] = encCr (revB lo hi x) := by subst h; cases hi <;> simp_all [revB, encCr]
theorem rev_ff {lo hi : Bool} {x : Cr} (h : lo = false) (k : (!(lo == hi)) = false) : [iv x.a0, iv x.a1, iv x.a2, iv x.a3, iv x.s] = encCr (revB lo hi x) := by subst h; cases hi <;> simp_all [revB, encCr]
end Go.V
/- Equality of diagrams, and their count of components, by the reference. -/
namespace Go.Proofs
open Go Go.V
set_option maxRecDepth 20000
theorem eq69 (a b c f s a1 b1 c1 f1 s1 : Int) (w : World) : (Op.equalIn 10000 62 (.agg #[iv a, iv b, iv c, iv f, iv s]) (.agg #[iv a1, iv b1, iv c1, iv f1, iv s1])).run Tryz.prog w = .ok (decide (a = a1 ∧ b = b1 ∧ c = c1 ∧ f = f1 ∧ s = s1)) w := eq_five Tryz.underlying62 Tryz.stoodInHeld62 Tryz.underlying60 Tryz.underlying3 Tryz.underlying3 (by kernel_rfl : Tryz.prog.info? 3 = some Tryz.t3) (by kernel_rfl) Tryz.sizeOf60 (by decide) (by decide) rfl rfl 9997 _ _ _ _ _ _ _ _ _ _ w

theorem ref_Same (ba bb : Option Addr) (A B : Addr) (ca cb : Nat) (a b : Dia) (w : World) (hda : DiaAt w ba A a) (hdb : DiaAt w bb B b) : Gives Tryz.prog 11 #[diaV ba ca a, diaV bb cb b] w Nil (fun _ : Unit => True) (fun _ => .bool (decide (a = b))) (fun _ => []) := by
  have hlen := hda.len
  have hlen2 := hdb.len
  refine fn_of_run (S := Nil) (args := [diaV ba ca a, diaV bb cb b]) (n := 38) (L := []) Tryz.func11 rfl Tryz.ntmps11 (Nat.le_of_ble_eq_true rfl) (Sym.nil _ _) ?_
  change RunC _ _ _ [(0, _), (1, _)] _
  refine RunC.seq ?_
  refine RunC.region ?_
  refine RunL.grows rfl rfl rfl (Grows.box rfl rfl) (fun b2 _ => ?_)
  refine RunL.grows rfl rfl rfl (Grows.box rfl rfl) (fun b3 _ => ?_)
  refine RunL.still rfl rfl rfl (Still.assign rfl rfl) ?_
  refine RunL.nil ?_
  refine Ends.then ?_
  refine RunC.seq ?_
  refine RunC.seq ?_
  refine RunC.meet1 (chg := [(19, .bool (decide (a.loops ≠ b.loops ∨ (a.cross.length : Int) ≠ (b.cross.length : Int))))]) (keep := [(2, _), (3, _)]) (hkeep := [_, _]) (Fr.Sub.cons rfl (Fr.Sub.cons rfl (Fr.Sub.nil _))) (HSub.pick 0 rfl (HSub.pick 0 rfl (HSub.nil _))) ?_ ?_
  ·
    refine RunC.region ?_
    refine RunL.still rfl rfl rfl (Still.fieldAddrL (off := 0) (off' := 1) rfl rfl Tryz.underlying24 rfl Tryz.sizeOf3 rfl) ?_
    refine RunL.still rfl rfl rfl (Still.load rfl rfl Tryz.isAgg3 (fun _ hs => cell_nth (hs.at (i := 1) rfl) rfl)) ?_
    refine RunL.still rfl rfl rfl (Still.fieldAddrL (off := 0) (off' := 1) rfl rfl Tryz.underlying24 rfl Tryz.sizeOf3 rfl) ?_
    refine RunL.still rfl rfl rfl (Still.load rfl rfl Tryz.isAgg3 (fun _ hs => cell_nth (hs.at (i := 0) rfl) rfl)) ?_
    refine RunL.still rfl rfl rfl (Still.neq rfl rfl rfl) ?_
    refine RunL.still rfl rfl rfl (Still.move rfl rfl) ?_
    refine RunL.split (t := 11) rfl (fun h11 => ?_) (fun h11 => ?_)
    · have h11 := of_decide_eq_true h11
      refine RunL.off rfl rfl rfl ?_
      refine RunL.off rfl rfl rfl ?_
      refine RunL.off rfl rfl rfl ?_
      refine RunL.off rfl rfl rfl ?_
      refine RunL.off rfl rfl rfl ?_
      refine RunL.off rfl rfl rfl ?_
      refine RunL.off rfl rfl rfl ?_
      refine RunL.still rfl rfl rfl (Still.pickT rfl rfl rfl) ?_
      refine RunL.nil ?_
      exact Ends.meet1 (Fr.Sub.cons (by first | exact congrArg (fun b => some (Value.bool b)) (decide_eq_true (by omega)).symm | exact congrArg (fun b => some (Value.bool b)) (decide_eq_false (by omega)).symm | exact congrArg (fun b => some (Value.bool b)) (decide_eq_decide.2 (by omega))) (Fr.Sub.nil _)) (Fr.Sub.cons rfl (Fr.Sub.cons rfl (Fr.Sub.nil _))) (HSub.pick 0 rfl (HSub.pick 0 rfl (HSub.nil _)))
    · have h11 := of_decide_eq_false h11
      refine RunL.still rfl rfl rfl (Still.fieldAddrL (off := 0) (off' := 0) rfl rfl Tryz.underlying24 rfl Tryz.sizeOf22 rfl) ?_
      refine RunL.still rfl rfl rfl (Still.load rfl rfl Tryz.isAgg22 (fun _ hs => cell_nth (hs.at (i := 1) rfl) rfl)) ?_
      refine RunL.still rfl rfl rfl (Still.lenSlice rfl rfl Tryz.underlying22) ?_
      refine RunL.still rfl rfl rfl (Still.fieldAddrL (off := 0) (off' := 0) rfl rfl Tryz.underlying24 rfl Tryz.sizeOf22 rfl) ?_
      refine RunL.still rfl rfl rfl (Still.load rfl rfl Tryz.isAgg22 (fun _ hs => cell_nth (hs.at (i := 0) rfl) rfl)) ?_
      refine RunL.still rfl rfl rfl (Still.lenSlice rfl rfl Tryz.underlying22) ?_
      refine RunL.still rfl rfl rfl (Still.neq rfl rfl rfl) ?_
      refine RunL.still rfl rfl rfl (Still.pickF rfl rfl rfl) ?_
      refine RunL.nil ?_
      exact Ends.meet1 (Fr.Sub.cons (by first | exact congrArg (fun b => some (Value.bool b)) (decide_eq_true (by omega)).symm | exact congrArg (fun b => some (Value.bool b)) (decide_eq_false (by omega)).symm | exact congrArg (fun b => some (Value.bool b)) (decide_eq_decide.2 (by omega))) (Fr.Sub.nil _)) (Fr.Sub.cons rfl (Fr.Sub.cons rfl (Fr.Sub.nil _))) (HSub.pick 0 rfl (HSub.pick 0 rfl (HSub.nil _)))
  ·
    refine Ends.then ?_
    refine RunC.cond rfl (fun h19 => ?_) (fun h19 => ?_)
    · have h19 := of_decide_eq_true h19
      refine RunC.seq ?_
      refine RunC.region ?_
      refine RunL.still rfl rfl rfl (Still.assign rfl rfl) ?_
      refine RunL.nil ?_
      refine Ends.then ?_
      refine RunC.ret ?_
      refine Ends.then_ret ?_
      refine Ends.leave (.inl rfl) (fun _ _ ok => results1 Tryz.results11 (Holds.tmp rfl) ok) (fun w1 hs => ?_)
      exact Ret.intro () trivial (congrArg Value.bool (decide_eq_false (fun e => by subst e; omega)).symm) (HSub.nil _) hs
    · have h19 := of_decide_eq_false h19
      refine RunC.skip ?_
      refine Ends.then ?_
      refine RunC.seq ?_
      refine RunC.seq ?_
      refine RunC.region ?_
      refine RunL.still rfl rfl rfl (Still.assign rfl rfl) ?_
      refine RunL.nil ?_
      refine Ends.then ?_
      refine RunC.block ?_
      refine RunC.loop2 (γ := Nat) (keep := [(2, _), (3, _)]) (hkeep := [_, _]) (fun i => i ≤ a.cross.length ∧ ∀ j, j < i → a.cross[j]? = b.cross[j]?) (fun i => a.cross.length - i) (fun i => [(5, iv i)]) (fun i => []) 0 ⟨by omega, fun j h => by omega⟩ (Fr.Sub.cons rfl (Fr.Sub.nil _)) (Fr.Sub.cons rfl (Fr.Sub.cons rfl (Fr.Sub.nil _))) (HSub.pick 0 rfl (HSub.pick 0 rfl (HSub.nil _))) ?_
      rintro i ⟨hi, he⟩
      refine RunC.seq ?_
      refine RunC.seq ?_
      refine RunC.region ?_
      refine RunL.still rfl rfl rfl (Still.move rfl rfl) ?_
      refine RunL.still rfl rfl rfl (Still.fieldAddrL (off := 0) (off' := 0) rfl rfl Tryz.underlying24 rfl Tryz.sizeOf22 rfl) ?_
      refine RunL.still rfl rfl rfl (Still.load rfl rfl Tryz.isAgg22 (fun _ hs => cell_nth (hs.at (i := 1) rfl) rfl)) ?_
      refine RunL.still rfl rfl rfl (Still.lenSlice rfl rfl Tryz.underlying22) ?_
      refine RunL.still rfl rfl rfl (Still.lss rfl rfl rfl) ?_
      refine RunL.nil ?_
      refine Ends.then ?_
      refine RunC.cond rfl (fun h24 => ?_) (fun h24 => ?_)
      · have h24 := of_decide_eq_true h24
        obtain ⟨x, hx⟩ := get_of_lt (l := a.cross) (i := i) (by omega)
        obtain ⟨y, hy⟩ := get_of_lt (l := b.cross) (i := i) (by omega)
        refine RunC.skip ?_
        refine Ends.then ?_
        refine RunC.seq ?_
        refine RunC.block ?_
        refine RunC.seq ?_
        refine RunC.draw 10 (.still 0 (.still 1 (.still 2 (.still 3 (.still 4 (.still 5 (.still 6 (.still 7 (.still 8 (.still 9 .done)))))))))) (by kernel_rfl) (by kernel_rfl) ?_
        refine RunG.still rfl rfl rfl rfl (Still.fieldAddrL (off := 0) (off' := 0) rfl rfl Tryz.underlying24 rfl Tryz.sizeOf22 rfl) ?_
        refine RunG.still rfl rfl rfl rfl (Still.load rfl rfl Tryz.isAgg22 (fun _ hs => cell_nth (hs.at (i := 1) rfl) rfl)) ?_
        refine RunG.still rfl rfl rfl rfl (Still.move rfl rfl) ?_
        refine RunG.still rfl rfl rfl rfl (Still.indexSliceN rfl rfl rfl Tryz.underlying22 Tryz.sizeOf62 (hda.base (by omega)) (by omega)) ?_
        refine RunG.still rfl rfl rfl rfl (Still.loads rfl rfl Tryz.isAgg62 Tryz.sizeOf62 (vs := [iv x.a0, iv x.a1, iv x.a2, iv x.a3, iv x.s]) rfl (fun _ hs => Cells.base0 (hda.cross hx) hs)) ?_
        refine RunG.still rfl rfl rfl rfl (Still.fieldAddrL (off := 0) (off' := 0) rfl rfl Tryz.underlying24 rfl Tryz.sizeOf22 rfl) ?_
        refine RunG.still rfl rfl rfl rfl (Still.load rfl rfl Tryz.isAgg22 (fun _ hs => cell_nth (hs.at (i := 0) rfl) rfl)) ?_
        refine RunG.still rfl rfl rfl rfl (Still.move rfl rfl) ?_
        refine RunG.still rfl rfl rfl rfl (Still.indexSliceN rfl rfl rfl Tryz.underlying22 Tryz.sizeOf62 (hdb.base (by omega)) (by omega)) ?_
        refine RunG.still rfl rfl rfl rfl (Still.loads rfl rfl Tryz.isAgg62 Tryz.sizeOf62 (vs := [iv y.a0, iv y.a1, iv y.a2, iv y.a3, iv y.s]) rfl (fun _ hs => Cells.base0 (hdb.cross hy) hs)) ?_
        refine RunG.done ?_
        show RunL _ _ _ [_] _ _
        refine RunL.still rfl rfl rfl (Still.neqAgg rfl rfl rfl Tryz.eqGuardType62 (fun _ => eq69 _ _ _ _ _ _ _ _ _ _ _)) ?_
        refine RunL.nil ?_
        refine Ends.then ?_
        refine RunC.cond rfl (fun h37 => ?_) (fun h37 => ?_)
        · skip
          refine RunC.seq ?_
          refine RunC.region ?_
          refine RunL.still rfl rfl rfl (Still.assign rfl rfl) ?_
          refine RunL.nil ?_
          refine Ends.then ?_
          refine RunC.ret ?_
          refine Ends.block_ret ?_
          refine Ends.then_ret ?_
          refine Ends.then_ret ?_
          refine Ends.block_ret ?_
          refine Ends.then_ret ?_
          refine Ends.leave (.inl rfl) (fun _ _ ok => results1 Tryz.results11 (Holds.tmp rfl) ok) (fun w2 hs => ?_)
          exact Ret.intro () trivial (congrArg Value.bool (decide_eq_false (fun e => by subst e; rw [hx] at hy; cases hy; simp at h37)).symm) (HSub.nil _) hs
        · skip
          refine RunC.skip ?_
          refine Ends.block ?_
          refine Ends.then ?_
          refine RunC.region ?_
          refine RunL.still rfl rfl rfl (Still.move rfl rfl) ?_
          refine RunL.still rfl rfl rfl (Still.add rfl rfl rfl (fits64 (by omega) (by omega))) ?_
          refine RunL.still rfl rfl rfl (Still.assign rfl rfl) ?_
          refine RunL.nil ?_
          have hxy : x = y := by obtain ⟨x0, x1, x2, x3, xs⟩ := x; obtain ⟨y0, y1, y2, y3, ys⟩ := y; simp at h37; simp [h37]
          refine Ends.again (i + 1) ?_ ?_ (Fr.Sub.app ?_ ?_) ?_
          · exact ⟨by omega, fun j h => by rcases Nat.lt_or_ge j i with h2 | h2; exact he j h2; obtain rfl : j = i := (by omega); rw [hx, hy, hxy]⟩
          · show _ < _; omega
          · exact Fr.Sub.cons rfl (Fr.Sub.nil _)
          · exact Fr.Sub.cons rfl (Fr.Sub.cons rfl (Fr.Sub.nil _))
          · exact HSub.pick 0 rfl (HSub.pick 0 rfl (HSub.nil _))
      · have h24 := of_decide_eq_false h24
        refine RunC.exit ?_
        refine Ends.then_exit ?_
        refine Ends.then_exit ?_
        refine Ends.block_exit ?_
        refine Ends.then ?_
        refine RunC.seq ?_
        refine RunC.region ?_
        refine RunL.still rfl rfl rfl (Still.assign rfl rfl) ?_
        refine RunL.nil ?_
        refine Ends.then ?_
        refine RunC.ret ?_
        refine Ends.leave (.inl rfl) (fun _ _ ok => results1 Tryz.results11 (Holds.tmp rfl) ok) (fun w3 hs => ?_)
        exact Ret.intro () trivial (congrArg Value.bool (decide_eq_true (by have hc : a.cross = b.cross := List.ext_getElem? fun j => (by rcases Nat.lt_or_ge j a.cross.length with h | h; exact he j (by omega); rw [List.getElem?_eq_none (by omega), List.getElem?_eq_none (by omega)]); obtain ⟨ac, al⟩ := a; obtain ⟨bc, bl⟩ := b; simp at h19 hc ⊢; exact ⟨hc, by omega⟩)).symm) (HSub.nil _) hs

theorem ref_Same_eq (ba bb : Option Addr) (A B : Addr) (ca cb : Nat) (a b : Dia) (w : World) (hda : DiaAt w ba A a) (hdb : DiaAt w bb B b) (e : a = b) : Gives Tryz.prog 11 #[diaV ba ca a, diaV bb cb b] w Nil (fun _ : Unit => True) (fun _ => .bool true) (fun _ => []) := by
  have h := ref_Same ba bb A B ca cb a b w hda hdb
  rwa [decide_eq_true e] at h

end Go.Proofs
